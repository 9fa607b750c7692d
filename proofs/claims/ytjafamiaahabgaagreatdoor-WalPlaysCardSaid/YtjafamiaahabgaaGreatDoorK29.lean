/- wal, plain: the segments of a log follow one another; one log alone on its disk. garnerref10: Drop. Nothing is claimed here. -/
import Derived.Test.YtjafamiaahabgaaGreatDoorK28
import Derived.Test.YtjafamiaahabgaaGreatDoorK20
import Derived.Test.YtjafamiaahabgaaGreatDoorK27
namespace Go.Proofs.YtjafamiaahabgaaGreatDoor
open Go.RowKit Go.Lib
set_option linter.unusedVariables false
set_option linter.unusedSimpArgs false
set_option maxRecDepth 100000

/-- segments that follow one another, from n on to af; none but the last may be without entries -/
def ChG : Nat → List Wg → Nat → Prop
  | n, [], af => n = af
  | n, g :: gs, af => g.first = n ∧ (gs ≠ [] → g.es ≠ []) ∧ ChG g.next gs af
def flatG (G : List Wg) : List (List UInt8) := G.flatMap Wg.es
theorem flatG_cons (g : Wg) (G : List Wg) : flatG (g :: G) = g.es ++ flatG G := rfl
theorem flatG_app (A B : List Wg) : flatG (A ++ B) = flatG A ++ flatG B := List.flatMap_append
theorem ChG.af : ∀ {G : List Wg} {n af : Nat}, ChG n G af → af = n + (flatG G).length
  | [], n, af, h => by
    have h : n = af := h
    simp [flatG, h]
  | g :: gs, n, af, ⟨h1, h2, h3⟩ => by
    have h4 := ChG.af h3
    rw [flatG_cons, List.length_append]
    rw [Wg.next] at h4
    omega
theorem ChG.ge {G : List Wg} {n af : Nat} (h : ChG n G af) : n ≤ af := by have := h.af; omega
theorem ChG.mem : ∀ {G : List Wg} {n af : Nat}, ChG n G af → ∀ g ∈ G, n ≤ g.first ∧ g.next ≤ af
  | q :: gs, n, af, ⟨h1, h2, h3⟩, g, hg => by
    have h4 := h3.ge
    have h5 : q.next = q.first + q.es.length := rfl
    rcases List.mem_cons.1 hg with rfl | hg
    · omega
    · have := ChG.mem h3 g hg
      omega
theorem ChG.apart : ∀ {G : List Wg} {n af : Nat}, ChG n G af → apartW G
  | [], _, _, _ => by intro x y p q _ hp; simp at hp
  | g :: gs, n, af, ⟨h1, h2, h3⟩ => by
    intro x y p q hxy hp hq
    cases y with
    | zero => omega
    | succ y =>
      rw [List.getElem?_cons_succ] at hq
      cases x with
      | zero =>
        rw [List.getElem?_cons_zero] at hp
        obtain rfl := Option.some.inj hp
        have hm := List.mem_of_getElem? hq
        have h4 := h2 (List.ne_nil_of_mem hm)
        have h5 := (h3.mem q hm).1
        have h6 := List.length_pos_iff.2 h4
        have h7 : g.next = g.first + g.es.length := rfl
        omega
      | succ x =>
        rw [List.getElem?_cons_succ] at hp
        exact ChG.apart h3 x y p q (by omega) hp hq
theorem ChG.rises {G : List Wg} {n af : Nat} (h : ChG n G af) : G.Pairwise fun a b => a.first < b.first := by
  rw [List.pairwise_iff_getElem]
  intro i j hi hj hij
  exact (h.apart i j _ _ hij (List.getElem?_eq_getElem hi) (List.getElem?_eq_getElem hj)).1
theorem ChG.last : ∀ {G : List Wg} {n af : Nat}, ChG n G af → ∀ g, G.getLast? = some g → g.next = af
  | [], _, _, _, g, h => by simp at h
  | [q], n, af, ⟨_, _, h3⟩, g, h => by
    simp only [List.getLast?_singleton, Option.some.injEq] at h
    subst h; exact h3
  | q :: r :: gs, n, af, ⟨_, _, h3⟩, g, h => by
    rw [List.getLast?_cons_cons] at h
    exact ChG.last h3 g h
theorem ChG.app : ∀ {A B : List Wg} {n m af : Nat}, ChG n A m → (∀ g ∈ A, g.es ≠ []) → ChG m B af → ChG n (A ++ B) af
  | [], B, n, m, af, h, _, hB => by
    have h : n = m := h
    subst h; exact hB
  | g :: A, B, n, m, af, ⟨h1, h2, h3⟩, hA, hB => ⟨h1, fun _ => hA g (List.mem_cons_self ..), ChG.app h3 (fun q hq => hA q (List.mem_cons_of_mem _ hq)) hB⟩
theorem ChG.split : ∀ {A B : List Wg} {n af : Nat}, ChG n (A ++ B) af → ∃ m, ChG n A m ∧ ChG m B af
  | [], B, n, af, h => ⟨n, rfl, h⟩
  | g :: A, B, n, af, ⟨h1, h2, h3⟩ => by
    obtain ⟨m, hA, hB⟩ := ChG.split h3
    exact ⟨m, ⟨h1, fun hne => h2 (by simp [hne]), hA⟩, hB⟩
/-- an entry by its number -/
theorem getW_ch : ∀ {G : List Wg} {n af : Nat}, ChG n G af → ∀ i : Nat, n ≤ i → getW G i = (flatG G)[i - n]?
  | [], n, af, _, i, _ => by simp [getW, findW, flatG]
  | g :: gs, n, af, ⟨h1, h2, h3⟩, i, hi => by
    have hn : g.next = g.first + g.es.length := rfl
    by_cases h : i < g.next
    · have hl : i - n < g.es.length := by omega
      rw [getW, findW, List.find?_cons_of_pos (by simp; omega), flatG_cons, List.getElem?_append_left hl]
      simp only [Option.map_some]
      rw [show ((i : Int) - (g.first : Nat)).toNat = i - n by omega, List.getD_eq_getElem?_getD, List.getElem?_eq_getElem hl]
      rfl
    · have ih := getW_ch h3 i (by omega)
      rw [getW, findW] at ih ⊢
      rw [List.find?_cons_of_neg (by simp; omega), ih, flatG_cons, List.getElem?_append_right (by omega)]
      congr 1; omega
theorem getW_low {G : List Wg} {n af : Nat} (h : ChG n G af) {i : Int} (hi : i < (n : Int)) : getW G i = none := by
  rw [getW, findW, List.find?_eq_none.2]
  · rfl
  · intro g hg
    have := (h.mem g hg).1
    simp; omega
/-! ### bytes -/
def wtW (xs : List (List UInt8)) : Nat := (xs.map fun x => 10 + x.length).sum
theorem wtW_app (a b : List (List UInt8)) : wtW (a ++ b) = wtW a + wtW b := by simp [wtW]
theorem wtW_cons (x : List UInt8) (xs : List (List UInt8)) : wtW (x :: xs) = 10 + x.length + wtW xs := by simp [wtW]
theorem wtW_len : ∀ xs : List (List UInt8), 10 * xs.length ≤ wtW xs
  | [] => by simp [wtW]
  | x :: xs => by
    have := wtW_len xs
    rw [wtW_cons, List.length_cons]; omega
theorem wtW_mem : ∀ {xs : List (List UInt8)} {x : List UInt8}, x ∈ xs → x.length + 10 ≤ wtW xs
  | y :: xs, x, h => by
    rw [wtW_cons]
    rcases List.mem_cons.1 h with rfl | h
    · omega
    · have := wtW_mem h; omega
theorem recL_le {n : Nat} (h : n < 16384) (x : List UInt8) : recL n x ≤ 10 + x.length := by
  have : (encU n).length ≤ 2 := by
    unfold encU encG
    split
    · simp
    · unfold encG
      rw [if_pos (by omega)]
      simp
  rw [recL]; omega
theorem lenW_le : ∀ (xs : List (List UInt8)) (n : Nat), n + xs.length ≤ 16384 → lenW n xs ≤ wtW xs
  | [], n, _ => by simp [lenW, wtW]
  | x :: xs, n, h => by
    rw [List.length_cons] at h
    have h1 := lenW_le xs (n + 1) (by omega)
    have h2 := recL_le (n := n) (by omega) x
    rw [lenW, wtW_cons]; omega
theorem lenW_app : ∀ (n : Nat) (a b : List (List UInt8)), lenW n (a ++ b) = lenW n a + lenW (n + a.length) b
  | n, [], b => by simp [lenW]
  | n, x :: a, b => by
    rw [List.cons_append, lenW, lenW, lenW_app (n + 1) a b, List.length_cons, show n + 1 + a.length = n + (a.length + 1) by omega]; omega
theorem lenW_take (n : Nat) (xs : List (List UInt8)) (k : Nat) : lenW n (xs.take k) ≤ lenW n xs := by
  have h := lenW_app n (xs.take k) (xs.drop k)
  rw [List.take_append_drop] at h
  omega
theorem recsW_app : ∀ (n : Nat) (a b : List (List UInt8)), recsW n (a ++ b) = recsW n a ++ recsW (n + a.length) b
  | n, [], b => by simp [recsW]
  | n, x :: a, b => by
    rw [List.cons_append, recsW, recsW, recsW_app (n + 1) a b, List.length_cons, show n + 1 + a.length = n + (a.length + 1) by omega, List.append_assoc]
theorem recsW_take (n : Nat) (xs : List (List UInt8)) (k : Nat) : (recsW n xs).take (lenW n (xs.take k)) = recsW n (xs.take k) := by
  have h := recsW_app n (xs.take k) (xs.drop k)
  rw [List.take_append_drop] at h
  rw [h, List.take_left' (recsW_len _ _)]
/-! ### the disk's files -/
theorem getS_nm : ∀ {S : List Fl} {nm : ByteArray}, (∀ f ∈ S, f.nm ≠ nm) → getS S nm = none
  | [], _, _ => rfl
  | f :: S, nm, h => by rw [getS, if_neg (h f (List.mem_cons_self ..)), getS_nm fun g hg => h g (List.mem_cons_of_mem _ hg)]
theorem getS_at : ∀ {A C : List Fl} {f : Fl} {nm : ByteArray}, (∀ g ∈ A, g.nm ≠ nm) → f.nm = nm → getS (A ++ f :: C) nm = some f
  | [], C, f, nm, _, hf => by rw [List.nil_append, getS, if_pos hf]
  | g :: A, C, f, nm, h, hf => by rw [List.cons_append, getS, if_neg (h g (List.mem_cons_self ..)), getS_at (fun q hq => h q (List.mem_cons_of_mem _ hq)) hf]
theorem putS_end : ∀ {S : List Fl} {g : Fl}, (∀ f ∈ S, f.nm ≠ g.nm) → putS S g = S ++ [g]
  | [], _, _ => rfl
  | f :: S, g, h => by rw [putS, if_neg (h f (List.mem_cons_self ..)), putS_end fun q hq => h q (List.mem_cons_of_mem _ hq)]; rfl
theorem putS_at : ∀ {A C : List Fl} {f g : Fl}, (∀ x ∈ A, x.nm ≠ g.nm) → f.nm = g.nm → putS (A ++ f :: C) g = A ++ g :: C
  | [], C, f, g, _, hf => by rw [List.nil_append, putS, if_pos hf]; rfl
  | x :: A, C, f, g, h, hf => by rw [List.cons_append, putS, if_neg (h x (List.mem_cons_self ..)), putS_at (fun q hq => h q (List.mem_cons_of_mem _ hq)) hf]; rfl
theorem delS_at : ∀ {A C : List Fl} {f : Fl} {nm : ByteArray}, (∀ g ∈ A, g.nm ≠ nm) → f.nm = nm → delS (A ++ f :: C) nm = A ++ C
  | [], C, f, nm, _, hf => by rw [List.nil_append, delS, if_pos hf]; rfl
  | g :: A, C, f, nm, h, hf => by rw [List.cons_append, delS, if_neg (h g (List.mem_cons_self ..)), delS_at (fun q hq => h q (List.mem_cons_of_mem _ hq)) hf]; rfl
theorem nm_apart {pre : ByteArray} {A : List (Wg × Nat)} {n : Nat} (hn : n ≤ 99999999) (h : ∀ g ∈ A, g.1.first < n) : ∀ f ∈ A.map (fileW pre), f.nm ≠ wnm pre n := by
  intro f hf he
  obtain ⟨g, hg, rfl⟩ := List.mem_map.1 hf
  have h1 := h g hg
  have := wnm_inj (by omega) hn (show wnm pre g.1.first = wnm pre n from he)
  omega
end Go.Proofs.YtjafamiaahabgaaGreatDoor
namespace Go.Proofs.YtjafamiaahabgaaGreatDoor
open Go.RowKit Go.Lib
set_option linter.unusedVariables false
set_option linter.unusedSimpArgs false
set_option maxRecDepth 100000

def Rg.next (s : Rg) : Nat := s.first + s.es.length
/-- a Drop, segment by segment -/
def rdF (pre : ByteArray) (i : Int) (af : Nat) : List Rg → List Fl → List Rg × List Fl
  | [], R => ([], R)
  | s :: gs, R => if (s.next : Int) ≤ i ∧ (gs ≠ [] ∨ i = (af : Int)) then rdF pre i af gs (delS R (wnm pre s.first)) else (s :: (rdF pre i af gs R).1, (rdF pre i af gs R).2)
theorem rdF_sub (pre : ByteArray) (i : Int) (af : Nat) : ∀ (sg : List Rg) (R : List Fl), (rdF pre i af sg R).1.Sublist sg
  | [], R => .refl _
  | s :: gs, R => by
    unfold rdF
    split
    · exact (rdF_sub pre i af gs _).cons _
    · exact (rdF_sub pre i af gs R).cons_cons _
theorem rdF_keep (pre : ByteArray) (i : Int) (af : Nat) : ∀ (sg : List Rg) (R : List Fl), (∀ s ∈ sg, i < (s.next : Int)) → rdF pre i af sg R = (sg, R)
  | [], R, _ => rfl
  | s :: gs, R, h => by
    have h1 := h s (List.mem_cons_self ..)
    rw [rdF, if_neg (by omega), rdF_keep pre i af gs R fun q hq => h q (List.mem_cons_of_mem _ hq)]
theorem fe_next {s : Rg} {g : Wg} (h : s.fe = g.fe) : s.next = g.next ∧ s.first = g.first := by
  injection h with h1 h2
  refine ⟨?_, h1⟩
  have := congrArg List.length h2
  rw [List.length_map] at this
  rw [Rg.next, Wg.next, h1, this]
theorem rdF_drop (pre : ByteArray) (i : Int) (af : Nat) : ∀ (sg : List Rg) (G : List Wg) (R : List Fl) (n e : Nat), sg.map Rg.fe = G.map Wg.fe → ChG n G e →
    (rdF pre i af sg R).1.map Rg.fe = (dropR pre i af G R).1.map Wg.fe ∧ (rdF pre i af sg R).2 = (dropR pre i af G R).2
  | [], [], R, _, _, _, _ => ⟨rfl, rfl⟩
  | [], g :: G, R, _, _, h, _ => by simp at h
  | s :: sg, [], R, _, _, h, _ => by simp at h
  | s :: sg, g :: G, R, n, e, h, hc => by
    rw [List.map_cons, List.map_cons] at h
    injection h with h1 h2
    obtain ⟨hn, hf⟩ := fe_next h1
    have hnil : sg = [] ↔ G = [] := by
      constructor
      · rintro rfl
        simpa using h2.symm
      · rintro rfl
        simpa using h2
    rw [rdF, dropR, hn, hf]
    by_cases hcase : i < (g.next : Int) ∨ (G = [] ∧ i ≠ (af : Int))
    · rw [if_pos hcase, if_neg (by
        rintro ⟨h3, h4⟩
        rcases hcase with h5 | ⟨h5, h6⟩
        · omega
        · rcases h4 with h4 | h4
          · exact h4 (hnil.2 h5)
          · exact h6 h4)]
      have hk : rdF pre i af sg R = (sg, R) := by
        rcases hcase with h5 | ⟨h5, h6⟩
        · refine rdF_keep pre i af sg R fun q hq => ?_
          obtain ⟨j, hj⟩ := List.getElem?_of_mem hq
          have h7 : (sg.map Rg.fe)[j]? = some q.fe := by rw [List.getElem?_map, hj]; rfl
          rw [h2, List.getElem?_map] at h7
          obtain ⟨p, hp, hpq⟩ := Option.map_eq_some_iff.1 h7
          have h8 := (fe_next hpq.symm).1
          have h9 := (hc.2.2.mem p (List.mem_of_getElem? hp)).1
          have : p.next = p.first + p.es.length := rfl
          omega
        · rw [hnil.2 h5]; rfl
      rw [hk]
      exact ⟨by rw [List.map_cons, List.map_cons, h1, h2], rfl⟩
    · rw [if_neg hcase, if_pos (by
        refine ⟨by omega, ?_⟩
        by_cases h5 : sg = []
        · exact .inr (Decidable.byContradiction fun h6 => hcase (.inr ⟨hnil.1 h5, h6⟩))
        · exact .inl h5)]
      exact rdF_drop pre i af sg G _ _ _ h2 hc.2.2
theorem res_sub {K sg : List Rg} (h : K.Sublist sg) : (K.flatMap Rg.res).Sublist (sg.flatMap Rg.res) := by
  induction h with
  | slnil => exact .refl _
  | cons a _ ih =>
    rw [List.flatMap_cons]
    exact ih.trans (List.sublist_append_right _ _)
  | cons_cons a _ ih =>
    rw [List.flatMap_cons, List.flatMap_cons]
    exact (List.Sublist.refl _).append ih
set_option maxHeartbeats 16000000 in
theorem rdrop_fn {B k m room : Nat} {pre : ByteArray} {R : List Fl} {G : List Wg} {af n : Nat} {D : List Nat} {F : List Res} (i : Int) (hp : 1 ≤ pre.size ∧ pre.size ≤ 55) {w0 w : World} (hlen : G.length ≤ 1000000) (hfs : ∀ g ∈ G, g.first ≤ 99999999 ∧ g.size ≤ 1073741824) (haf : af ≤ 4000000000) (hch : ChG n G af) (hR : RlS B w0 w k m pre room R (G.map Wg.fe) af D F) :
    Fn Tryz.prog 54 #[.pointer (some ⟨m, 0, none⟩), .int .i64 i] w fun r w' => r = .int .i64 (if mayW G af i = true then 0 else 1) ∧
      RlS B w0 w' k m pre room (if mayW G af i = true then (dropR pre i af G R).2 else R) ((if mayW G af i = true then (dropR pre i af G R).1 else G).map Wg.fe) af D F := by
  obtain ⟨sv, sg, dv, hP, hD⟩ := hR.of
  clear hR
  have hsgl : sg.length = G.length := by have := congrArg List.length hP; simpa using this
  have hsf : ∀ s ∈ sg, s.first ≤ 99999999 ∧ s.es.length ≤ 1000000000 := fun s hs => by
    obtain ⟨j, hj⟩ := List.getElem?_of_mem hs
    have h7 : (sg.map Rg.fe)[j]? = some s.fe := by rw [List.getElem?_map, hj]; rfl
    rw [hP, List.getElem?_map] at h7
    obtain ⟨p, hp, hpq⟩ := Option.map_eq_some_iff.1 h7
    obtain ⟨h8, h10⟩ := fe_next hpq.symm
    have h9 := hfs p (List.mem_of_getElem? hp)
    have h11 := lenW_ge p.first p.es
    have h12 : p.size = lenW p.first p.es := rfl
    have h13 : p.next = p.first + p.es.length := rfl
    rw [Rg.next] at h8
    omega
  have hlow : lowP (sg.map Rg.fe) af = lowW G af := by
    rw [hP]; cases G <;> rfl
  obtain ⟨hd1, hd2⟩ := rdF_drop pre i af sg G R n af hP hch
  obtain ⟨dL, hL, hB, close⟩ := hD.open
  obtain ⟨sa, sc, rfl⟩ := (show SlN w 2 sv sg.length _ from hL.rowN (i := 1) rfl).shape
  refine Fn.mk Tryz.func54 rfl (by kernel_rfl) Tryz.ntmps54 rfl (by rw [Tryz.results54]) ?_
  repeat (first | (refine RunH ?_; intro w hL hB; try clear w) | (refine Both.mk ?_ ?_ <;> conv => whnf) | fail)
  refine (rbounds_fn sg w (hL.hold _ (.head _)) (hL.rowN (i := 1) rfl)).mono fun r w ⟨hr, hw⟩ => ?_
  rw [hlow] at hr
  subst hr
  replace hL := hL.call hB (Turns.of_below hw)
  replace hB := Nat.le_trans hB hw.size
  by_cases hmay : mayW G af i = true
  case neg =>
    have h1 : ¬ ((lowW G af : Int) ≤ i ∧ i ≤ (af : Int)) := by simpa [mayW] using hmay
    rw [if_neg hmay, if_neg hmay, if_neg hmay]
    conv => whnf
    by_cases h2 : i < (lowW G af : Int)
    · repeat (first | (refine RunH ?_; intro w hL hB; try clear w) | (refine Both.mk ?_ ?_ <;> conv => whnf) | fail)
      exact ⟨rfl, ⟨_, sg, dv, hP, close (F' := rlR m k pre _ sg af dv D ++ F) hL hB⟩⟩
    · have h3 : (af : Int) < i := by omega
      repeat (first | (refine RunH ?_; intro w hL hB; try clear w) | (refine Both.mk ?_ ?_ <;> conv => whnf) | fail)
      exact ⟨rfl, ⟨_, sg, dv, hP, close (F' := rlR m k pre _ sg af dv D ++ F) hL hB⟩⟩
  have h1 : (lowW G af : Int) ≤ i ∧ i ≤ (af : Int) := by simpa [mayW] using hmay
  rw [if_pos hmay, if_pos hmay, if_pos hmay, ← hd1, ← hd2]
  obtain ⟨h1a, h1b⟩ := h1
  have h1a' : ¬ (i < (lowW G af : Int)) := by omega
  have h1b' : ¬ ((af : Int) < i) := by omega
  conv => whnf
  repeat (first | (refine RunH ?_; intro w hL hB; try clear w) | (refine Both.mk ?_ ?_ <;> conv => whnf) | fail)
  have hD1 := close (F' := .row 133 2 (.slice none 0 0) 0 (([] : List Rg).flatMap Rg.cells) :: (rlR m k pre (.slice sa sg.length sc) sg af dv D ++ F)) (hL.nilRow 133 2) hB
  clear hL hB close hD
  refine V.loop (α := Nat × List Rg × Value × List Fl) (fun z => [(0, .pointer (some ⟨m, 0, none⟩)), (1, .int .i64 i), (6, .int .i64 (af : Int)), (7, z.2.2.1), (8, .int .i64 (z.1 : Int))])
    (fun z w' => (z.1 ≤ sg.length ∧ (z.2.1 ++ sg.drop z.1).Sublist sg ∧ rdF pre i af sg R = (z.2.1 ++ (rdF pre i af (sg.drop z.1) z.2.2.2).1, (rdF pre i af (sg.drop z.1) z.2.2.2).2)) ∧
      RkS B w0 w' k room z.2.2.2 (.row 133 2 z.2.2.1 z.2.1.length (z.2.1.flatMap Rg.cells) :: (rlR m k pre (.slice sa sg.length sc) sg af dv D ++ F))) (fun z => sg.length - z.1) (0, [], .slice none 0 0, R) ⟨rfl, rfl, rfl, rfl, rfl, trivial⟩ ⟨⟨Nat.zero_le _, by simp, by simp⟩, hD1⟩ ?_
  clear hD1
  rintro ⟨j, K, kv, Rj⟩ w ⟨⟨hj, hsub, hrd⟩, hD⟩
  dsimp only at hj hsub hrd hD ⊢
  obtain ⟨dL, hL, hB, close⟩ := hD.open
  clear hD
  obtain ⟨ka, kc, rfl⟩ := (show SlN w 2 kv K.length _ from hL.rowN (i := 0) rfl).shape
  replace hL : Sep Tryz.prog B w0 w (.row 133 2 (.slice ka K.length kc) K.length (K.flatMap Rg.cells) :: .blk m [.pointer (some ⟨k, 0, none⟩), .string pre, .slice sa sg.length sc, .int .i64 (af : Int), dv] 128 :: .row 133 2 (.slice sa sg.length sc) sg.length (sg.flatMap Rg.cells) :: .row 3 1 dv D.length (D.map iN) :: (sg.flatMap Rg.res ++ F) ++ dL) := hL
  by_cases hlt : j < sg.length
  case neg =>
    obtain rfl : j = sg.length := by omega
    rw [List.drop_length, rdF, List.append_nil] at hrd
    rw [List.drop_length, List.append_nil] at hsub
    rw [hrd]
    repeat (first | (refine RunH ?_; intro w hL hB; try clear w) | (refine Both.mk ?_ ?_ <;> conv => whnf) | fail)
    refine ⟨rfl, ⟨_, K, dv, rfl, close (F' := rlR m k pre (.slice ka K.length kc) K af dv D ++ F) ?_ hB⟩⟩
    have h1 := ((hL.pop 2).perm (List.Perm.swap _ _ _)).sub (.cons_cons _ (.cons_cons _ (.cons_cons _ (((res_sub hsub).append (.refl F)).append (.refl dL)))))
    exact h1
  have hgj : sg[j]? = some sg[j] := List.getElem?_eq_getElem hlt
  have hsfj := hsf _ (List.getElem_mem hlt)
  have hdj : sg.drop j = sg[j] :: sg.drop (j + 1) := List.drop_eq_getElem_cons hlt
  have hmem := List.getElem_mem hlt
  generalize sg[j] = s at *
  have hKl : K.length ≤ sg.length := by
    have := hsub.length_le
    rw [List.length_append] at this
    omega
  have hdl : (sg.drop (j + 1) ≠ []) ↔ j + 1 < sg.length := by
    rw [Ne, List.drop_eq_nil_iff]; omega
  rw [hdj] at hsub hrd
  have hsubR : (K ++ sg.drop (j + 1)).Sublist sg := ((List.Sublist.refl K).append (List.sublist_cons_self _ _)).trans hsub
  have hsubK : ((K ++ [s]) ++ sg.drop (j + 1)).Sublist sg := by rw [List.append_assoc]; exact hsub
  have hrdR : ((s.next : Int) ≤ i ∧ (sg.drop (j + 1) ≠ [] ∨ i = (af : Int))) → rdF pre i af sg R = (K ++ (rdF pre i af (sg.drop (j + 1)) (delS Rj (wnm pre s.first))).1, (rdF pre i af (sg.drop (j + 1)) (delS Rj (wnm pre s.first))).2) := fun hc => by
    rw [hrd, rdF, if_pos hc]
  have hrdK : ¬ ((s.next : Int) ≤ i ∧ (sg.drop (j + 1) ≠ [] ∨ i = (af : Int))) → rdF pre i af sg R = ((K ++ [s]) ++ (rdF pre i af (sg.drop (j + 1)) Rj).1, (rdF pre i af (sg.drop (j + 1)) Rj).2) := fun hc => by
    rw [hrd, rdF, if_neg hc]
    simp
  have hlvs : Sl w s.lv (s.es.map En.v) := (hL.hold (.ro s.lv (s.es.map En.v)) (List.mem_append_left _ (List.mem_cons_of_mem _ (List.mem_cons_of_mem _ (List.mem_cons_of_mem _ (List.mem_cons_of_mem _ (List.mem_append_left _ (List.mem_flatMap.2 ⟨s, hmem, List.mem_cons_self ..⟩)))))))).1
  obtain ⟨la, lc, hlv⟩ := hlvs.shape
  rw [List.length_map] at hlv
  have hsc : s.cells = [.int .i64 (s.first : Int), .slice la s.es.length lc] := by rw [Rg.cells, hlv]
  obtain ⟨g, o, rfl, _⟩ := (show SlN w 2 _ sg.length _ from hL.rowN (i := 2) rfl).addr (by omega)
  have hrow := (show SlN w 2 _ sg.length _ from hL.rowN (i := 2) rfl).rowOf
  have hnx : s.next = s.first + s.es.length := rfl
  rw [hnx] at hrdR hrdK
  rw [hdl] at hrdR hrdK
  repeat (first | (refine RunH ?_; intro w hL hB; try clear w) | (refine Both.mk ?_ ?_ <;> conv => whnf) | (intro o1 ho1; conv => whnf) | (refine Ld.rowN ttOk Rg.cells_len hrow rfl rfl rfl hgj (by omega) ?_; rw [hsc]; conv => whnf) | fail)
  (refine Nw.sep hL hB (fun b9 w hL hB hb9 => ?_); conv => whnf)
  by_cases hn : ((s.first + s.es.length : Nat) : Int) ≤ i
  · have hn' : (s.first : Int) + (s.es.length : Int) ≤ i := by push_cast at hn; exact hn
    by_cases hl : j + 1 < sg.length
    · have hl' : ¬ (j : Int) = (sg.length : Int) - 1 := by omega
      have hc : ((s.first + s.es.length : Nat) : Int) ≤ i ∧ (j + 1 < sg.length ∨ i = (af : Int)) := ⟨hn, .inl hl⟩
      repeat (first | (refine RunH ?_; intro w hL hB; try clear w) | (refine Both.mk ?_ ?_ <;> conv => whnf) | fail)
      refine V.tree ttOk (fun x => Blk x m [.pointer (some ⟨k, 0, none⟩), .string pre, .slice (some ⟨g, o, none⟩) sg.length sc, .int .i64 (af : Int), dv] 128 ∧ Blk x b9 [.int .i64 (s.first : Int), .slice la s.es.length lc] 133) (.q 0 (.q 1 (.q 2 (.q 3 (.q 4 (.q 5 (.q 6 (.q 7 (.q 8 (.q 9 (.alt 10 (.alt 11 .nil .stop) .stop))))))))))) mixed (by decide +kernel) ⟨hL.drew.blk (i := 2) rfl, hL.drew.blk (i := 0) rfl⟩ ?_
      replace hL := hL.drew
      conv => whnf
      repeat' (first | (refine RunH ?_; intro w hL hB; try clear w) | (refine Br.dec (fun hbr => ?_) (fun hbr => ?_) <;> conv => whnf) | (refine Br.mk (fun hbr => ?_) (fun hbr => ?_) <;> conv => whnf) | (refine Both.mk ?_ ?_ <;> conv => whnf) | (refine Lq.of_class (fun x hx => Ld.blk ttOk rfl rfl hx.1 rfl rfl) ?_; conv => whnf) | (refine Lq.of_class (fun x hx => Ld.blk ttOk rfl rfl hx.2 rfl rfl) ?_; conv => whnf) | fail)
      refine (nameW_fn pre (by omega) s.first hsfj.1 _).mono fun r w ⟨hr, hw⟩ => ?_
      subst hr
      replace hL := hL.call hB (Turns.of_below hw)
      replace hB := Nat.le_trans hB hw.size
      refine And.intro ⟨hL.blk (i := 2) rfl, hL.blk (i := 0) rfl⟩ ?_
      conv => whnf
      repeat (first | (refine RunH ?_; intro w hL hB; try clear w) | (refine Both.mk ?_ ?_ <;> conv => whnf) | fail)
      refine (removeR_fn (wnm pre s.first) (close (F' := .blk b9 _ _ :: .row 133 2 (.slice ka K.length kc) K.length (K.flatMap Rg.cells) :: (rlR m k pre (.slice (some ⟨g, o, none⟩) sg.length sc) sg af dv D ++ F)) hL hB)).mono fun r w ⟨hr, hD⟩ => ?_
      subst hr
      clear hL hB close
      obtain ⟨dL, hL, hB, close⟩ := hD.open
      refine And.intro ⟨hL.blk (i := 2) rfl, hL.blk (i := 0) rfl⟩ ?_
      conv => whnf
      repeat (first | (refine RunH ?_; intro w hL hB; try clear w) | (refine Both.mk ?_ ?_ <;> conv => whnf) | fail)
      exact ⟨(j + 1, K, .slice ka K.length kc, delS Rj (wnm pre s.first)), ⟨rfl, rfl, rfl, rfl, vint (by push_cast; rfl), trivial⟩, ⟨⟨by omega, hsubR, hrdR hc⟩, hD.sub (List.sublist_cons_self _ _)⟩, (by first | omega | (dsimp only; omega))⟩
    · have hl' : (j : Int) = (sg.length : Int) - 1 := by omega
      by_cases hia : i = (af : Int)
      · have hc : ((s.first + s.es.length : Nat) : Int) ≤ i ∧ (j + 1 < sg.length ∨ i = (af : Int)) := ⟨hn, .inr hia⟩
        repeat (first | (refine RunH ?_; intro w hL hB; try clear w) | (refine Both.mk ?_ ?_ <;> conv => whnf) | fail)
        refine V.tree ttOk (fun x => Blk x m [.pointer (some ⟨k, 0, none⟩), .string pre, .slice (some ⟨g, o, none⟩) sg.length sc, .int .i64 (af : Int), dv] 128 ∧ Blk x b9 [.int .i64 (s.first : Int), .slice la s.es.length lc] 133) (.q 0 (.q 1 (.q 2 (.q 3 (.q 4 (.q 5 (.q 6 (.q 7 (.q 8 (.q 9 (.alt 10 (.alt 11 .nil .stop) .stop))))))))))) mixed (by decide +kernel) ⟨hL.drew.blk (i := 2) rfl, hL.drew.blk (i := 0) rfl⟩ ?_
        replace hL := hL.drew
        conv => whnf
        repeat' (first | (refine RunH ?_; intro w hL hB; try clear w) | (refine Br.dec (fun hbr => ?_) (fun hbr => ?_) <;> conv => whnf) | (refine Br.mk (fun hbr => ?_) (fun hbr => ?_) <;> conv => whnf) | (refine Both.mk ?_ ?_ <;> conv => whnf) | (refine Lq.of_class (fun x hx => Ld.blk ttOk rfl rfl hx.1 rfl rfl) ?_; conv => whnf) | (refine Lq.of_class (fun x hx => Ld.blk ttOk rfl rfl hx.2 rfl rfl) ?_; conv => whnf) | fail)
        refine (nameW_fn pre (by omega) s.first hsfj.1 _).mono fun r w ⟨hr, hw⟩ => ?_
        subst hr
        replace hL := hL.call hB (Turns.of_below hw)
        replace hB := Nat.le_trans hB hw.size
        refine And.intro ⟨hL.blk (i := 2) rfl, hL.blk (i := 0) rfl⟩ ?_
        conv => whnf
        repeat (first | (refine RunH ?_; intro w hL hB; try clear w) | (refine Both.mk ?_ ?_ <;> conv => whnf) | fail)
        refine (removeR_fn (wnm pre s.first) (close (F' := .blk b9 _ _ :: .row 133 2 (.slice ka K.length kc) K.length (K.flatMap Rg.cells) :: (rlR m k pre (.slice (some ⟨g, o, none⟩) sg.length sc) sg af dv D ++ F)) hL hB)).mono fun r w ⟨hr, hD⟩ => ?_
        subst hr
        clear hL hB close
        obtain ⟨dL, hL, hB, close⟩ := hD.open
        refine And.intro ⟨hL.blk (i := 2) rfl, hL.blk (i := 0) rfl⟩ ?_
        conv => whnf
        repeat (first | (refine RunH ?_; intro w hL hB; try clear w) | (refine Both.mk ?_ ?_ <;> conv => whnf) | fail)
        exact ⟨(j + 1, K, .slice ka K.length kc, delS Rj (wnm pre s.first)), ⟨rfl, rfl, rfl, rfl, vint (by push_cast; rfl), trivial⟩, ⟨⟨by omega, hsubR, hrdR hc⟩, hD.sub (List.sublist_cons_self _ _)⟩, (by first | omega | (dsimp only; omega))⟩
      · have hc : ¬ (((s.first + s.es.length : Nat) : Int) ≤ i ∧ (j + 1 < sg.length ∨ i = (af : Int))) := by omega
        repeat (first | (refine RunH ?_; intro w hL hB; try clear w) | (refine Both.mk ?_ ?_ <;> conv => whnf) | fail)
        refine Rv.buildS (len := 1) ttOk hL tl126 tl133 rfl rfl (by intro u hu; simp only [List.mem_singleton] at hu; subst hu; rfl) (by decide) (by decide) hB fun bo w hL hB => ?_
        replace hL : Sep Tryz.prog B w0 w (.row 133 2 (.slice (some ⟨bo, 0, none⟩) 1 1) 1 [.int .i64 (s.first : Int), .slice la s.es.length lc] :: _) := hL
        conv => whnf
        repeat (first | (refine RunH ?_; intro w hL hB; try clear w) | (refine Both.mk ?_ ?_ <;> conv => whnf) | fail)
        refine Rv.appendS (m := 1) ttOk hL tl126 tl133 rfl (by decide) 2 rfl (hL.rowN (i := 0) rfl) (by intro u hu; simp only [List.mem_cons, List.not_mem_nil, or_false] at hu; rcases hu with rfl | rfl <;> rfl) (by simp only [maxLen]; omega) (by omega) hB fun v1 w hL hB => ?_
        dsimp only [List.set] at hL
        replace hL := hL.tl.tl
        obtain ⟨a1, c1, rfl⟩ := (show SlN w 2 v1 (K.length + 1) _ from hL.rowN (i := 0) rfl).shape
        conv => whnf
        repeat (first | (refine RunH ?_; intro w hL hB; try clear w) | (refine Both.mk ?_ ?_ <;> conv => whnf) | fail)
        refine ⟨(j + 1, K ++ [s], .slice a1 (K.length + 1) c1, Rj), ⟨rfl, rfl, rfl, rfl, vint (by push_cast; rfl), trivial⟩, ⟨⟨by omega, hsubK, hrdK hc⟩, ?_⟩, (by first | omega | (dsimp only; omega))⟩
        dsimp only
        rw [List.length_append, List.flatMap_append, show [s].flatMap Rg.cells = [.int .i64 (s.first : Int), .slice la s.es.length lc] by simp [hsc]]
        exact close (F' := .row 133 2 (.slice a1 (K.length + 1) c1) (K.length + 1) (K.flatMap Rg.cells ++ [.int .i64 (s.first : Int), .slice la s.es.length lc]) :: (rlR m k pre (.slice (some ⟨g, o, none⟩) sg.length sc) sg af dv D ++ F)) hL hB
  · have hn' : ¬ ((s.first : Int) + (s.es.length : Int) ≤ i) := by push_cast at hn; exact hn
    have hc : ¬ (((s.first + s.es.length : Nat) : Int) ≤ i ∧ (j + 1 < sg.length ∨ i = (af : Int))) := fun h => hn h.1
    repeat (first | (refine RunH ?_; intro w hL hB; try clear w) | (refine Both.mk ?_ ?_ <;> conv => whnf) | fail)
    refine Rv.buildS (len := 1) ttOk hL tl126 tl133 rfl rfl (by intro u hu; simp only [List.mem_singleton] at hu; subst hu; rfl) (by decide) (by decide) hB fun bo w hL hB => ?_
    replace hL : Sep Tryz.prog B w0 w (.row 133 2 (.slice (some ⟨bo, 0, none⟩) 1 1) 1 [.int .i64 (s.first : Int), .slice la s.es.length lc] :: _) := hL
    conv => whnf
    repeat (first | (refine RunH ?_; intro w hL hB; try clear w) | (refine Both.mk ?_ ?_ <;> conv => whnf) | fail)
    refine Rv.appendS (m := 1) ttOk hL tl126 tl133 rfl (by decide) 2 rfl (hL.rowN (i := 0) rfl) (by intro u hu; simp only [List.mem_cons, List.not_mem_nil, or_false] at hu; rcases hu with rfl | rfl <;> rfl) (by simp only [maxLen]; omega) (by omega) hB fun v1 w hL hB => ?_
    dsimp only [List.set] at hL
    replace hL := hL.tl.tl
    obtain ⟨a1, c1, rfl⟩ := (show SlN w 2 v1 (K.length + 1) _ from hL.rowN (i := 0) rfl).shape
    conv => whnf
    repeat (first | (refine RunH ?_; intro w hL hB; try clear w) | (refine Both.mk ?_ ?_ <;> conv => whnf) | fail)
    refine ⟨(j + 1, K ++ [s], .slice a1 (K.length + 1) c1, Rj), ⟨rfl, rfl, rfl, rfl, vint (by push_cast; rfl), trivial⟩, ⟨⟨by omega, hsubK, hrdK hc⟩, ?_⟩, (by first | omega | (dsimp only; omega))⟩
    dsimp only
    rw [List.length_append, List.flatMap_append, show [s].flatMap Rg.cells = [.int .i64 (s.first : Int), .slice la s.es.length lc] by simp [hsc]]
    exact close (F' := .row 133 2 (.slice a1 (K.length + 1) c1) (K.length + 1) (K.flatMap Rg.cells ++ [.int .i64 (s.first : Int), .slice la s.es.length lc]) :: (rlR m k pre (.slice (some ⟨g, o, none⟩) sg.length sc) sg af dv D ++ F)) hL hB
end Go.Proofs.YtjafamiaahabgaaGreatDoor
