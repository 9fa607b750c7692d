/- wal: Get of any number. Both disks beside one another. Nothing is claimed here. -/
import Derived.Test.YtjafamiaahabgaaGreatDoorK20
import Derived.Test.YtjafamiaahabgaaGreatDoorK12
import Derived.Test.YtjafamiaahabgaaGreatDoorK25
namespace Go.Proofs.YtjafamiaahabgaaGreatDoor
open Go.RowKit Go.Lib
set_option linter.unusedVariables false
set_option linter.unusedSimpArgs false
set_option maxRecDepth 100000

set_option maxHeartbeats 8000000 in
theorem logOf2_fn {l : Nat} {c0 c1 c3 sv : Value} {sg : List Sg} (i : Int) (hi : -9223372036854775808 ≤ i ∧ i ≤ 9223372036854775807) (ha : apart sg) (hlen : sg.length ≤ 1000000000) (hfs : ∀ s ∈ sg, s.first ≤ 4000000000 ∧ s.es.length ≤ 4000000000) (w0 : World) (hC : Blk w0 l [c0, c1, sv, c3] 65) (hS : Sl w0 sv (ptrs sg))
    (hb : ∀ s ∈ sg, Blk w0 s.b [.int .i64 (s.first : Int), s.ev, s.xv, .bool s.dirty] 80 ∧ Sl w0 s.ev (s.es.map En.v)) :
    Fn Tryz.prog 38 #[.pointer (some ⟨l, 0, none⟩), .int .i64 i] w0 fun r w' => r = ptrO (findSg sg i) ∧ Below w0.heap.size w0 w' := by
  have hps : (ptrs sg).length = sg.length := by simp [ptrs]
  obtain ⟨sa, sc, rfl⟩ := hS.shape
  have hL := Sep.start Tryz.prog w0
  have hB := Nat.le_refl w0.heap.size
  have hC2 : ∀ x, Below w0.heap.size w0 x → Blk x l _ 65 := fun x h => hC.below h hC.lt
  have hS2 : ∀ x, Below w0.heap.size w0 x → Sl x _ (ptrs sg) := fun x h => hS.below h
  refine Fn.mk Tryz.func38 rfl (by kernel_rfl) Tryz.ntmps38 rfl (by rw [Tryz.results38]) ?_
  repeat (first | (refine RunH ?_; intro w hL hB; try clear w) | (refine Both.mk ?_ ?_ <;> conv => whnf) | fail)
  refine (bsearchW_fn _ (ptrs sg) (sg.map Sg.first) i (by omega) (by rw [hps, List.length_map]) (apart_rises ha) w0 hS (fun k f hf => by
    rw [List.getElem?_map] at hf
    obtain ⟨s, hs, rfl⟩ := Option.map_eq_some_iff.1 hf
    exact ⟨s.b, _, _, _, by rw [ptrs, List.getElem?_map, hs]; rfl, (hb s (List.mem_of_getElem? hs)).1⟩)).mono fun r w ⟨⟨c, b, hcut, hr, hbi⟩, hw⟩ => ?_
  subst hr
  replace hL := hL.call hB (Turns.of_below hw)
  replace hB := Nat.le_trans hB hw.size
  have hcl := hcut.le
  rw [List.length_map] at hcl
  rw [hps] at *
  -- the segment that may have it: number m - 1
  obtain ⟨m, hm⟩ : ∃ m : Nat, m = if b then c + 1 else c := ⟨_, rfl⟩
  have hml : m ≤ sg.length := by
    rw [hm]
    split
    · rename_i hbt
      obtain ⟨f, hf, _⟩ := hbi.1 hbt
      have := (List.getElem?_eq_some_iff.1 hf).1
      rw [List.length_map] at this
      omega
    · exact hcl
  have hlow : ∀ (k : Nat) (s : Sg), k < m → sg[k]? = some s → (s.first : Int) ≤ i := fun k s hk hs => by
    by_cases hkc : k < c
    · have := hcut.low k s.first hkc (by rw [List.getElem?_map, hs]; rfl); omega
    · rw [hm] at hk
      split at hk
      · rename_i hbt
        obtain ⟨f, hf, hfi⟩ := hbi.1 hbt
        obtain rfl : k = c := by omega
        rw [List.getElem?_map, hs] at hf
        injection hf with hf
        omega
      · omega
  have hhigh : ∀ (k : Nat) (s : Sg), m ≤ k → sg[k]? = some s → i < (s.first : Int) := fun k s hk hs => by
    have h1 := hcut.high k s.first (by rw [hm] at hk; split at hk <;> omega) (by rw [List.getElem?_map, hs]; rfl)
    rcases Int.lt_or_eq_of_le h1 with h | h
    · exact h
    · exfalso
      by_cases hkc : k = c
      · subst hkc
        have : b = true := hbi.2 ⟨s.first, by rw [List.getElem?_map, hs]; rfl, h.symm⟩
        rw [hm, if_pos this] at hk; omega
      · have hck : c < k := by rw [hm] at hk; split at hk <;> omega
        have hlt := (List.getElem?_eq_some_iff.1 hs).1
        have g := List.getElem?_eq_getElem (show c < sg.length by omega)
        have := hcut.high c (sg[c]'(by omega)).first (Nat.le_refl _) (by rw [List.getElem?_map, g]; rfl)
        have := (ha c k _ s hck g hs).1
        omega
  have hnil : m = 0 → findSg sg i = none := fun h0 => findSg_none fun k s hs => .inl (hhigh k s (by omega) hs)
  conv => whnf
  refine V.seq ?_
  refine V.join (α := Unit) (fun _ => [(0, .pointer (some ⟨l, 0, none⟩)), (1, .int .i64 i), (5, .int .i64 ((m : Int) - 1))]) (fun _ w' => w' = w) ?_ ?_
  · cases b with
    | true =>
      have hmc : m = c + 1 := by rw [hm]; rfl
      repeat (first | (refine RunH ?_; intro w hL hB; try clear w) | (refine Both.mk ?_ ?_ <;> conv => whnf) | fail)
      exact ⟨(), ⟨rfl, rfl, vint (by omega), trivial⟩, rfl⟩
    | false =>
      have hmc : m = c := by rw [hm]; rfl
      repeat (first | (refine RunH ?_; intro w hL hB; try clear w) | (refine Both.mk ?_ ?_ <;> conv => whnf) | fail)
      exact ⟨(), ⟨rfl, rfl, vint (by omega), trivial⟩, rfl⟩
  rintro _ w1 hw1
  rw [hw1]
  clear hw1 w1
  by_cases h0 : m = 0
  · rw [hnil h0]
    have hm1 : (m : Int) - 1 < 0 := by omega
    repeat (first | (refine RunH ?_; intro w hL hB; try clear w) | (refine Both.mk ?_ ?_ <;> conv => whnf) | fail)
    exact ⟨rfl, hL.below⟩
  have hlt : m - 1 < sg.length := by omega
  have g := List.getElem?_eq_getElem hlt
  generalize hsd : sg[m - 1] = s at *
  have hsm : s ∈ sg := hsd ▸ List.getElem_mem hlt
  obtain ⟨hbk, hev⟩ := hb s hsm
  have hf := hfs s hsm
  have hgp : (ptrs sg)[m - 1]? = some (.pointer (some ⟨s.b, 0, none⟩)) := by rw [ptrs, List.getElem?_map, g]; rfl
  obtain ⟨b1, o1, rfl, _⟩ := hS.addr (by omega)
  have hrow : ∀ {w'}, Below w0.heap.size w0 w' → Row w' b1 o1 (ptrs sg) := fun h => (hS2 _ h).rowOf'
  repeat (first | (refine RunH ?_; intro w hL hB; try clear w) | (refine Both.mk ?_ ?_ <;> conv => whnf) | fail)
  intro o2 ho2
  conv => whnf
  repeat (first | (refine RunH ?_; intro w hL hB; try clear w) | (refine Both.mk ?_ ?_ <;> conv => whnf) | fail)
  refine Ld.row1 ttOk (hrow hL.below) rfl rfl hgp (by omega) ?_
  conv => whnf
  repeat (first | (refine RunH ?_; intro w hL hB; try clear w) | (refine Both.mk ?_ ?_ <;> conv => whnf) | fail)
  refine (segNext_fn w (hbk.below hL.below hbk.lt) (hev.below hL.below) hf.1 (by rw [List.length_map]; exact hf.2)).mono fun r w ⟨hr, hw⟩ => ?_
  subst hr
  replace hL := hL.call hB (Turns.of_below hw)
  replace hB := Nat.le_trans hB hw.size
  rw [List.length_map]
  have hsl := hlow (m - 1) s (by omega) g
  by_cases hin : i < ((s.first + s.es.length : Nat) : Int)
  · rw [findSg_hit ha g hsl hin]
    conv => whnf
    repeat (first | (refine RunH ?_; intro w hL hB; try clear w) | (refine Both.mk ?_ ?_ <;> conv => whnf) | fail)
    intro o3 ho3
    conv => whnf
    repeat (first | (refine RunH ?_; intro w hL hB; try clear w) | (refine Both.mk ?_ ?_ <;> conv => whnf) | fail)
    refine Ld.row1 ttOk (hrow hL.below) rfl rfl hgp (by omega) ?_
    conv => whnf
    repeat (first | (refine RunH ?_; intro w hL hB; try clear w) | (refine Both.mk ?_ ?_ <;> conv => whnf) | fail)
    exact ⟨rfl, hL.below⟩
  · rw [findSg_none fun k q hq => by
      by_cases hk : k < m - 1
      · have := (ha k (m - 1) q s hk hq g).2; right; omega
      · by_cases hk2 : k = m - 1
        · subst hk2; rw [g] at hq; injection hq with hq; subst hq; right; omega
        · left; exact hhigh k q (by omega) hq]
    conv => whnf
    repeat (first | (refine RunH ?_; intro w hL hB; try clear w) | (refine Both.mk ?_ ?_ <;> conv => whnf) | fail)
    exact ⟨rfl, hL.below⟩
set_option maxHeartbeats 8000000 in
theorem logGet2_fn {B d l room : Nat} {pre : ByteArray} {S : List Fl} {G : List Wg} {af : Nat} {F : List Res} (i : Int) (hi : -9223372036854775808 ≤ i ∧ i ≤ 9223372036854775807) {w0 w : World} (hlen : G.length ≤ 1000000000) (hfs : ∀ g ∈ G, g.first ≤ 99999999 ∧ g.size ≤ 1073741824) (hap : apartW G) (hG : LgS B w0 w d l pre room S G af F) :
    Fn Tryz.prog 13 #[.pointer (some ⟨l, 0, none⟩), .int .i64 i] w fun r w' => match getW G i with
      | some x => ∃ u, r = .tuple #[u, .int .i64 0] ∧ LgS B w0 w' d l pre room S G af (.row 5 1 u x.length (bv x) :: F)
      | none => r = .tuple #[.slice none 0 0, .int .i64 7] ∧ LgS B w0 w' d l pre room S G af F := by
  obtain ⟨n, sg, rfl, hok, hD⟩ := hG.of
  clear hG
  rw [List.length_map] at hlen
  obtain ⟨dL, hL, hB, close⟩ := hD.open
  clear hD
  have hm : ∀ {w' : World} {R1 : List Res}, Sep Tryz.prog B w0 w' (R1 ++ (logR l d pre n sg af ++ F ++ dL)) → ∀ s ∈ sg, ∀ R ∈ s.res, R.holds Tryz.prog w' := fun h s hs R hR => h.hold R (List.mem_append_right _ (List.mem_append_left _ (List.mem_append_left _ (by
    rw [logR]
    refine List.mem_cons_of_mem _ (List.mem_append_right _ ?_)
    exact List.mem_flatMap.2 ⟨s, hs, hR⟩))))
  have hbs : ∀ s ∈ sg, s.first ≤ 4000000000 ∧ s.es.length ≤ 4000000000 := fun s hs => by
    have h1 := hfs s.wg (List.mem_map.2 ⟨s, hs, rfl⟩)
    have h2 := lenW_ge s.first (s.es.map En.d)
    rw [List.length_map] at h2
    have h3 : s.wg.size = lenW s.first (s.es.map En.d) := rfl
    have h4 : s.wg.first = s.first := rfl
    omega
  have hsl : Sl w (n.val (ptrs sg)) (ptrs sg) := Wn.sl hok hL (fun R hR => by simp [logR]; exact .inr (.inl hR))
  refine Fn.mk Tryz.func13 rfl (by kernel_rfl) Tryz.ntmps13 rfl (by rw [Tryz.results13]) ?_
  repeat (first | (refine RunH ?_; intro w hL hB; try clear w) | (refine Both.mk ?_ ?_ <;> conv => whnf) | fail)
  refine (logOf2_fn i hi (apart_wg hap) hlen hbs w (hL.hold (.blk l (logC d pre n sg af) 65) (.head _)) hsl (fun s hs => ⟨hm (R1 := []) hL s hs s.hd (.head _), RowC.sl (show RowC w _ s.ev s.es.length _ from hm (R1 := []) hL s hs s.eR (.tail _ (.head _)))⟩)).mono fun r w ⟨hr, hw⟩ => ?_
  subst hr
  replace hL := hL.call hB (Turns.of_below hw)
  replace hB := Nat.le_trans hB hw.size
  rw [getW, find_wg]
  cases hf : findSg sg i with
  | none =>
    conv => whnf
    repeat (first | (refine RunH ?_; intro w hL hB; try clear w) | (refine Both.mk ?_ ?_ <;> conv => whnf) | fail)
    exact ⟨rfl, ⟨n, sg, rfl, hok, close (F' := logR l d pre n sg af ++ F) hL hB⟩⟩
  | some s =>
    have hs : s ∈ sg := List.mem_of_find?_eq_some hf
    have hin := List.find?_some hf
    simp only [decide_eq_true_eq] at hin
    obtain ⟨j, hj⟩ : ∃ j : Nat, (j : Int) = i - s.first := ⟨(i - s.first).toNat, by omega⟩
    have hjl : j < s.es.length := by omega
    have g := List.getElem?_eq_getElem hjl
    generalize he : s.es[j] = e at *
    have hej : (s.es.map En.d).getD (i - s.first).toNat [] = e.d := by
      rw [← hj, Int.toNat_natCast, List.getD_eq_getElem?_getD, List.getElem?_map, g]; rfl
    have hex : e ∈ s.es := he ▸ List.getElem_mem hjl
    have hro := hm (R1 := []) hL s hs e.res (by simp [Sg.res]; exact .inr (.inr (.inr ⟨e, hex, rfl⟩)))
    obtain ⟨ea, ec, hev⟩ := hro.1.shape
    rw [bv_length] at hev
    have hxl : e.d.length ≤ 1073741824 := by
      have h1 := hfs s.wg (List.mem_map.2 ⟨s, hs, rfl⟩)
      have h2 := lenW_mem (n := s.first) (List.mem_map.2 ⟨e, hex, rfl⟩ : e.d ∈ s.es.map En.d)
      have h3 : s.wg.size = lenW s.first (s.es.map En.d) := rfl
      omega
    have hrc : ∀ {w' : World}, Sep Tryz.prog B w0 w' (logR l d pre n sg af ++ F ++ dL) → Sl w' s.ev (s.es.map En.v) := fun h => RowC.sl (show RowC _ _ s.ev s.es.length _ from hm (R1 := []) h s hs s.eR (.tail _ (.head _)))
    obtain ⟨sa, sc, hsv⟩ := (hrc hL).shape
    rw [List.length_map] at hsv
    have hge : (s.es.map En.v)[j]? = some (.slice ea e.d.length ec) := by rw [List.getElem?_map, g]; exact congrArg some hev
    obtain ⟨g1, gO, hga, _⟩ := (hsv ▸ hrc hL).addr (by omega)
    have hcl : ∀ {w' : World}, Sep Tryz.prog B w0 w' (logR l d pre n sg af ++ F ++ dL) → Blk w' s.b [.int .i64 (s.first : Int), .slice sa s.es.length sc, s.xv, .bool s.dirty] 80 ∧ Sl w' (.slice sa s.es.length sc) (s.es.map En.v) := fun h => by
      have h1 := hm (R1 := []) h s hs s.hd (.head _)
      have h2 := hrc h
      rw [hsv] at h2
      refine ⟨?_, h2⟩
      rw [← hsv]; exact h1
    have hns : ((s.first : Nat) : Int) ≤ 4000000000 := by have := (hbs s hs).1; omega
    subst hga
    have hej2 : Option.map (fun g : Wg => g.es.getD (i - g.first).toNat []) (Option.map Sg.wg (some s)) = some e.d := congrArg some hej
    rw [hej2]
    conv => whnf
    repeat (first | (refine RunK ?_; intro w hL hB; try clear w) | (refine V.treeA ttOk hL (.q 0 (.q 1 (.q 2 (.q 3 (.q 4 (.q 5 (.q 6 (.q 7 (.q 8 (.q 9 (.q 10 (.q 11 (.alt 12 (.q 13 (.q 14 .nil)) .stop))))))))))))) mixed (by decide +kernel) ?_; replace hL := hL.drew; conv => whnf) | (refine V.tailA ttOk mixed (by decide +kernel) ?_; replace hL := hL.drew; conv => whnf) | (refine Both.mk ?_ ?_ <;> conv => whnf) | (refine Lq.of_class (fun x hx => Ld.blk ttOk rfl rfl (hcl hx).1 rfl rfl) ?_; conv => whnf) | (intro o2 ho2; conv => whnf) | (refine Lq.of_class (fun x hx => Ld.row1 ttOk (hcl hx).2.rowOf' rfl rfl hge (by omega) rfl) ?_; conv => whnf) | fail)
    have hse : ∀ {w' : World}, Sep Tryz.prog B w0 w' (logR l d pre n sg af ++ F ++ dL) → Sl w' (.slice ea e.d.length ec) (bv e.d) := fun hL => by
      have := (hm (R1 := []) hL s hs e.res (by simp [Sg.res]; exact .inr (.inr (.inr ⟨e, hex, rfl⟩)))).1
      rw [hev] at this
      exact this
    refine (clone_fn _ e.d _ (hse hL) (by omega)).mono fun r w ⟨ho, hw⟩ => ?_
    replace hL := hL.addRow hB hw ho
    replace hB := Nat.le_trans hB hw.size
    obtain ⟨ka, kc, rfl⟩ := (hL.rowN (i := 0) rfl).shape
    conv => whnf
    refine And.intro hL.tl ?_
    conv => whnf
    repeat (first | (refine RunH ?_; intro w hL hB; try clear w) | (refine Both.mk ?_ ?_ <;> conv => whnf) | fail)
    refine ⟨_, rfl, ⟨n, sg, rfl, hok, ?_⟩⟩
    exact (close (F' := .row 5 1 (.slice ka e.d.length kc) e.d.length (bv e.d) :: (logR l d pre n sg af ++ F)) hL hB).perm List.perm_middle.symm
end Go.Proofs.YtjafamiaahabgaaGreatDoor
namespace Go.Proofs.YtjafamiaahabgaaGreatDoor
open Go.RowKit Go.Lib
set_option linter.unusedVariables false
set_option linter.unusedSimpArgs false
set_option maxRecDepth 100000
/-- both disks, and what else there is -/
structure Btw (B : Nat) (w0 w : World) (d k room : Nat) (Sd Sk : List Fl) (F : List Res) : Prop where
  of : ∃ dD dR, Sep Tryz.prog B w0 w (F ++ (dD ++ dR)) ∧ B ≤ w.heap.size ∧
    (∀ {w' : World} {F' : List Res}, Sep Tryz.prog B w0 w' (F' ++ dD) → B ≤ w'.heap.size → DkS B w0 w' d room Sd F') ∧
    (∀ {w' : World} {F' : List Res}, Sep Tryz.prog B w0 w' (F' ++ dR) → B ≤ w'.heap.size → RkS B w0 w' k room Sk F')
section
variable {B : Nat} {w0 w : World} {d k room : Nat} {Sd Sk : List Fl} {F F' : List Res}
theorem Btw.sep (h : Btw B w0 w d k room Sd Sk F) : ∃ G, Sep Tryz.prog B w0 w (F ++ G) ∧ B ≤ w.heap.size ∧ ∀ {w' : World} {F' : List Res}, Sep Tryz.prog B w0 w' (F' ++ G) → B ≤ w'.heap.size → Btw B w0 w' d k room Sd Sk F' := by
  obtain ⟨dD, dR, hL, hB, c1, c2⟩ := h
  exact ⟨dD ++ dR, hL, hB, fun h1 h2 => ⟨⟨dD, dR, h1, h2, c1, c2⟩⟩⟩
theorem Btw.dk (h : Btw B w0 w d k room Sd Sk F) : ∃ dR, DkS B w0 w d room Sd (F ++ dR) ∧ ∀ {w' : World} {Sd' : List Fl} {F' : List Res}, DkS B w0 w' d room Sd' (F' ++ dR) → Btw B w0 w' d k room Sd' Sk F' := by
  obtain ⟨dD, dR, hL, hB, c1, c2⟩ := h
  refine ⟨dR, c1 (hL.perm ?_) hB, fun hD => ?_⟩
  · rw [List.append_assoc]; exact List.perm_append_comm.append_left F
  · obtain ⟨dL, hL, hB, cl⟩ := hD.open
    refine ⟨⟨dL, dR, hL.perm ?_, hB, cl, c2⟩⟩
    rw [List.append_assoc]; exact List.perm_append_comm.append_left _
theorem Btw.rk (h : Btw B w0 w d k room Sd Sk F) : ∃ dD, RkS B w0 w k room Sk (F ++ dD) ∧ ∀ {w' : World} {Sk' : List Fl} {F' : List Res}, RkS B w0 w' k room Sk' (F' ++ dD) → Btw B w0 w' d k room Sd Sk' F' := by
  obtain ⟨dD, dR, hL, hB, c1, c2⟩ := h
  refine ⟨dD, c2 (by rw [List.append_assoc]; exact hL) hB, fun hD => ?_⟩
  obtain ⟨dL, hL, hB, cl⟩ := hD.open
  exact ⟨⟨dD, dL, by rw [← List.append_assoc]; exact hL, hB, c1, cl⟩⟩
theorem Btw.perm (h : Btw B w0 w d k room Sd Sk F) (hp : F.Perm F') : Btw B w0 w d k room Sd Sk F' := by
  obtain ⟨G, hL, hB, cl⟩ := h.sep
  exact cl (hL.perm (hp.append_right _)) hB
theorem Btw.sub (h : Btw B w0 w d k room Sd Sk F) (hs : F'.Sublist F) : Btw B w0 w d k room Sd Sk F' := by
  obtain ⟨G, hL, hB, cl⟩ := h.sep
  exact cl (hL.sub (hs.append (.refl _))) hB
end
end Go.Proofs.YtjafamiaahabgaaGreatDoor
