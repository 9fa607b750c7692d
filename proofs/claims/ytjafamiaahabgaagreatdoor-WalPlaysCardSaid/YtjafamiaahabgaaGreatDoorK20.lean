/- wal: Get. wal: Drop. Nothing is claimed here. -/
import Derived.Test.YtjafamiaahabgaaGreatDoorK19
namespace Go.Proofs.YtjafamiaahabgaaGreatDoor
open Go.RowKit Go.Lib
set_option linter.unusedVariables false
set_option linter.unusedSimpArgs false
set_option maxRecDepth 100000

/-- the segments stand behind one another -/
def apartW (G : List Wg) : Prop := ∀ (x y : Nat) (p q : Wg), x < y → G[x]? = some p → G[y]? = some q → p.first < q.first ∧ p.next ≤ q.first
def findW (G : List Wg) (i : Int) : Option Wg := G.find? fun g => decide ((g.first : Int) ≤ i ∧ i < (g.next : Nat))
def getW (G : List Wg) (i : Int) : Option (List UInt8) := (findW G i).map fun g => g.es.getD (i - g.first).toNat []
theorem apart_wg {sg : List Sg} (h : apartW (sg.map Sg.wg)) : Go.Proofs.YtjafamiaahabgaaGreatDoor.apart sg := by
  intro x y p q hxy hp hq
  have := h x y p.wg q.wg hxy (by rw [List.getElem?_map, hp]; rfl) (by rw [List.getElem?_map, hq]; rfl)
  simpa [Sg.wg, Wg.next] using this
theorem find_wg (sg : List Sg) (i : Int) : findW (sg.map Sg.wg) i = (findSg sg i).map Sg.wg := by
  rw [findW, findSg, List.find?_map]
  congr 2
  funext s
  simp [Sg.wg, Wg.next]
theorem lenW_mem : ∀ {xs : List (List UInt8)} {n : Nat} {x : List UInt8}, x ∈ xs → x.length ≤ lenW n xs
  | y :: xs, n, x, h => by
    rcases List.mem_cons.1 h with rfl | h
    · rw [lenW, recL]; omega
    · have := lenW_mem (n := n + 1) h
      rw [lenW]; omega
set_option maxHeartbeats 8000000 in
theorem logGet_fn {B d l room : Nat} {pre : ByteArray} {S : List Fl} {G : List Wg} {af : Nat} {F : List Res} (i : Int) (hi : -9223372036854775807 ≤ i ∧ i ≤ 9223372036854775807) {w0 w : World} (hlen : G.length ≤ 1000000000) (hfs : ∀ g ∈ G, g.first ≤ 99999999 ∧ g.size ≤ 1073741824) (hap : apartW G) (hG : LgS B w0 w d l pre room S G af F) :
    Fn Tryz.prog 13 #[.pointer (some ⟨l, 0, none⟩), .int .i64 i] w fun r w' => match getW G i with
      | some x => ∃ u, r = .tuple #[u, .int .i64 0] ∧ LgS B w0 w' d l pre room S G af (.row 5 1 u x.length (bv x) :: F)
      | none => r = .tuple #[.slice none 0 0, .int .i64 7] ∧ LgS B w0 w' d l pre room S G af F := by
  obtain ⟨n, sg, rfl, hok, hD⟩ := hG.of
  clear hG
  rw [List.length_map] at hlen
  obtain ⟨dL, hL, hB, close⟩ := hD.open
  clear hD
  have hm : ∀ {w' : World} {R1 : List Res}, Sep Tryz.prog B w0 w' (R1 ++ (logR l d pre n sg af ++ F ++ dL)) → ∀ s ∈ sg, ∀ R ∈ s.res, R.holds Tryz.prog w' := fun h s hs R hR => h.hold R (List.mem_append_right _ (List.mem_append_left _ (List.mem_append_left _ (by
    rw [logR]
    refine List.mem_cons_of_mem _ (List.mem_append_right _ ?_)
    exact List.mem_flatMap.2 ⟨s, hs, hR⟩))))
  have hbs : ∀ s ∈ sg, s.first ≤ 4000000000 ∧ s.es.length ≤ 4000000000 := fun s hs => by
    have h1 := hfs s.wg (List.mem_map.2 ⟨s, hs, rfl⟩)
    have h2 := lenW_ge s.first (s.es.map En.d)
    rw [List.length_map] at h2
    have h3 : s.wg.size = lenW s.first (s.es.map En.d) := rfl
    have h4 : s.wg.first = s.first := rfl
    omega
  have hsl : Sl w (n.val (ptrs sg)) (ptrs sg) := Wn.sl hok hL (fun R hR => by simp [logR]; exact .inr (.inl hR))
  refine Fn.mk Tryz.func13 rfl (by kernel_rfl) Tryz.ntmps13 rfl (by rw [Tryz.results13]) ?_
  repeat (first | (refine RunH ?_; intro w hL hB; try clear w) | (refine Both.mk ?_ ?_ <;> conv => whnf) | fail)
  refine (logOf_fn i hi (apart_wg hap) hlen hbs w (hL.hold (.blk l (logC d pre n sg af) 65) (.head _)) hsl (fun s hs => ⟨hm (R1 := []) hL s hs s.hd (.head _), RowC.sl (show RowC w _ s.ev s.es.length _ from hm (R1 := []) hL s hs s.eR (.tail _ (.head _)))⟩)).mono fun r w ⟨hr, hw⟩ => ?_
  subst hr
  replace hL := hL.call hB (Turns.of_below hw)
  replace hB := Nat.le_trans hB hw.size
  rw [getW, find_wg]
  cases hf : findSg sg i with
  | none =>
    conv => whnf
    repeat (first | (refine RunH ?_; intro w hL hB; try clear w) | (refine Both.mk ?_ ?_ <;> conv => whnf) | fail)
    exact ⟨rfl, ⟨n, sg, rfl, hok, close (F' := logR l d pre n sg af ++ F) hL hB⟩⟩
  | some s =>
    have hs : s ∈ sg := List.mem_of_find?_eq_some hf
    have hin := List.find?_some hf
    simp only [decide_eq_true_eq] at hin
    obtain ⟨j, hj⟩ : ∃ j : Nat, (j : Int) = i - s.first := ⟨(i - s.first).toNat, by omega⟩
    have hjl : j < s.es.length := by omega
    have g := List.getElem?_eq_getElem hjl
    generalize he : s.es[j] = e at *
    have hej : (s.es.map En.d).getD (i - s.first).toNat [] = e.d := by
      rw [← hj, Int.toNat_natCast, List.getD_eq_getElem?_getD, List.getElem?_map, g]; rfl
    have hex : e ∈ s.es := he ▸ List.getElem_mem hjl
    have hro := hm (R1 := []) hL s hs e.res (by simp [Sg.res]; exact .inr (.inr (.inr ⟨e, hex, rfl⟩)))
    obtain ⟨ea, ec, hev⟩ := hro.1.shape
    rw [bv_length] at hev
    have hxl : e.d.length ≤ 1073741824 := by
      have h1 := hfs s.wg (List.mem_map.2 ⟨s, hs, rfl⟩)
      have h2 := lenW_mem (n := s.first) (List.mem_map.2 ⟨e, hex, rfl⟩ : e.d ∈ s.es.map En.d)
      have h3 : s.wg.size = lenW s.first (s.es.map En.d) := rfl
      omega
    have hrc : ∀ {w' : World}, Sep Tryz.prog B w0 w' (logR l d pre n sg af ++ F ++ dL) → Sl w' s.ev (s.es.map En.v) := fun h => RowC.sl (show RowC _ _ s.ev s.es.length _ from hm (R1 := []) h s hs s.eR (.tail _ (.head _)))
    obtain ⟨sa, sc, hsv⟩ := (hrc hL).shape
    rw [List.length_map] at hsv
    have hge : (s.es.map En.v)[j]? = some (.slice ea e.d.length ec) := by rw [List.getElem?_map, g]; exact congrArg some hev
    obtain ⟨g1, gO, hga, _⟩ := (hsv ▸ hrc hL).addr (by omega)
    have hcl : ∀ {w' : World}, Sep Tryz.prog B w0 w' (logR l d pre n sg af ++ F ++ dL) → Blk w' s.b [.int .i64 (s.first : Int), .slice sa s.es.length sc, s.xv, .bool s.dirty] 80 ∧ Sl w' (.slice sa s.es.length sc) (s.es.map En.v) := fun h => by
      have h1 := hm (R1 := []) h s hs s.hd (.head _)
      have h2 := hrc h
      rw [hsv] at h2
      refine ⟨?_, h2⟩
      rw [← hsv]; exact h1
    have hns : ((s.first : Nat) : Int) ≤ 4000000000 := by have := (hbs s hs).1; omega
    subst hga
    have hej2 : Option.map (fun g : Wg => g.es.getD (i - g.first).toNat []) (Option.map Sg.wg (some s)) = some e.d := congrArg some hej
    rw [hej2]
    conv => whnf
    repeat (first | (refine RunK ?_; intro w hL hB; try clear w) | (refine V.treeA ttOk hL (.q 0 (.q 1 (.q 2 (.q 3 (.q 4 (.q 5 (.q 6 (.q 7 (.q 8 (.q 9 (.q 10 (.q 11 (.alt 12 (.q 13 (.q 14 .nil)) .stop))))))))))))) mixed (by decide +kernel) ?_; replace hL := hL.drew; conv => whnf) | (refine V.tailA ttOk mixed (by decide +kernel) ?_; replace hL := hL.drew; conv => whnf) | (refine Both.mk ?_ ?_ <;> conv => whnf) | (refine Lq.of_class (fun x hx => Ld.blk ttOk rfl rfl (hcl hx).1 rfl rfl) ?_; conv => whnf) | (intro o2 ho2; conv => whnf) | (refine Lq.of_class (fun x hx => Ld.row1 ttOk (hcl hx).2.rowOf' rfl rfl hge (by omega) rfl) ?_; conv => whnf) | fail)
    have hse : ∀ {w' : World}, Sep Tryz.prog B w0 w' (logR l d pre n sg af ++ F ++ dL) → Sl w' (.slice ea e.d.length ec) (bv e.d) := fun hL => by
      have := (hm (R1 := []) hL s hs e.res (by simp [Sg.res]; exact .inr (.inr (.inr ⟨e, hex, rfl⟩)))).1
      rw [hev] at this
      exact this
    refine (clone_fn _ e.d _ (hse hL) (by omega)).mono fun r w ⟨ho, hw⟩ => ?_
    replace hL := hL.addRow hB hw ho
    replace hB := Nat.le_trans hB hw.size
    obtain ⟨ka, kc, rfl⟩ := (hL.rowN (i := 0) rfl).shape
    conv => whnf
    refine And.intro hL.tl ?_
    conv => whnf
    repeat (first | (refine RunH ?_; intro w hL hB; try clear w) | (refine Both.mk ?_ ?_ <;> conv => whnf) | fail)
    refine ⟨_, rfl, ⟨n, sg, rfl, hok, ?_⟩⟩
    exact (close (F' := .row 5 1 (.slice ka e.d.length kc) e.d.length (bv e.d) :: (logR l d pre n sg af ++ F)) hL hB).perm List.perm_middle.symm
end Go.Proofs.YtjafamiaahabgaaGreatDoor
namespace Go.Proofs.YtjafamiaahabgaaGreatDoor
open Go.RowKit Go.Lib
set_option linter.unusedVariables false
set_option linter.unusedSimpArgs false
set_option maxRecDepth 100000

theorem Wn.tail {g c : Nat} {pr post ps : List Value} {p : Value} (hok : (Wn.at g pr post c).ok (p :: ps)) {o1 n1 c1 : Nat} (h1 : 1 < c → o1 = pr.length + 1) (h2 : 1 = c → o1 = pr.length) (h3 : n1 = ps.length) (h4 : c1 = c - 1) :
    ∃ n2 : Wn, n2.val ps = .slice (some ⟨g, o1, none⟩) n1 c1 ∧ n2.ok ps ∧ n2.res ps = (Wn.at g pr post c).res (p :: ps) := by
  obtain ⟨k1, k2, k3⟩ := hok
  rw [List.length_cons] at k1 k3
  subst h3; subst h4
  by_cases hc : c = 1
  · subst hc
    obtain rfl := h2 rfl
    obtain rfl := List.eq_nil_of_length_eq_zero (show ps.length = 0 by omega)
    exact ⟨.at g pr (p :: post) 0, rfl, ⟨by simp, by simp, by simp⟩, by simp [Wn.res]⟩
  · obtain rfl := h1 (by omega)
    exact ⟨.at g (pr ++ [p]) post (c - 1), by simp [Wn.val], ⟨by omega, by omega, by omega⟩, by simp [Wn.res]⟩
def dropR (pre : ByteArray) (i : Int) (af : Nat) : List Wg → List Fl → List Wg × List Fl
  | [], S => ([], S)
  | g :: gs, S => if i < (g.next : Nat) ∨ (gs = [] ∧ i ≠ (af : Int)) then (g :: gs, S) else dropR pre i af gs (delS S (wnm pre g.first))
def lowW (G : List Wg) (af : Nat) : Nat := match G with
  | [] => af
  | g :: _ => g.first
def mayW (G : List Wg) (af : Nat) (i : Int) : Bool := decide ((lowW G af : Int) ≤ i ∧ i ≤ (af : Int))
set_option maxHeartbeats 8000000 in
theorem logDrop_fn {B d l room : Nat} {pre : ByteArray} {S : List Fl} {G : List Wg} {af : Nat} {F : List Res} (i : Int) (hp : 1 ≤ pre.size ∧ pre.size ≤ 55) {w0 w : World} (ht : TabW B w0) (hlen : G.length ≤ 1000000000) (hfs : ∀ g ∈ G, g.first ≤ 99999999 ∧ g.size ≤ 1073741824) (hG : LgS B w0 w d l pre room S G af F) :
    Fn Tryz.prog 10 #[.pointer (some ⟨l, 0, none⟩), .int .i64 i] w fun r w' => r = .int .i64 (if mayW G af i = true then 0 else 1) ∧ LgS B w0 w' d l pre room (if mayW G af i = true then (dropR pre i af G S).2 else S) (if mayW G af i = true then (dropR pre i af G S).1 else G) af F := by
  obtain ⟨n, sg, rfl, hok, hD⟩ := hG.of
  clear hG
  rw [List.length_map] at hlen
  have hbs : ∀ s ∈ sg, s.first ≤ 99999999 ∧ s.es.length ≤ 4000000000 := fun s hs => by
    have h1 := hfs s.wg (List.mem_map.2 ⟨s, hs, rfl⟩)
    have h2 := lenW_ge s.first (s.es.map En.d)
    rw [List.length_map] at h2
    have h3 : s.wg.size = lenW s.first (s.es.map En.d) := rfl
    have h4 : s.wg.first = s.first := rfl
    omega
  clear hfs
  obtain ⟨dL, hL, hB, close⟩ := hD.open
  clear hD
  have hsl : Sl w (n.val (ptrs sg)) (ptrs sg) := Wn.sl hok hL (fun R hR => by simp [logR]; exact .inr (.inl hR))
  refine Fn.mk Tryz.func10 rfl (by kernel_rfl) Tryz.ntmps10 rfl (by rw [Tryz.results10]) ?_
  repeat (first | (refine RunH ?_; intro w hL hB; try clear w) | (refine Both.mk ?_ ?_ <;> conv => whnf) | fail)
  refine (may_fn (fi := lowW (sg.map Sg.wg) af) i w (hL.hold (.blk l (logC d pre n sg af) 65) (.head _)) hsl (fun h => by
    cases sg with
    | nil => rfl
    | cons s r => cases h) (fun p ps' h => by
    cases sg with
    | nil => cases h
    | cons s r =>
      injection h with h1 h2
      exact ⟨s.b, _, _, _, h1.symm, hL.hold s.hd (by simp [logR, Sg.res])⟩)).mono fun r w ⟨hr, hw⟩ => ?_
  rw [show (decide ((lowW (sg.map Sg.wg) af : Int) ≤ i ∧ i ≤ (af : Int))) = mayW (sg.map Sg.wg) af i from rfl] at hr
  subst hr
  replace hL := hL.call hB (Turns.of_below hw)
  replace hB := Nat.le_trans hB hw.size
  cases hmay : mayW (sg.map Sg.wg) af i with
  | false =>
    rw [if_neg (by simp), if_neg (by simp), if_neg (by simp)]
    conv => whnf
    repeat (first | (refine RunH ?_; intro w hL hB; try clear w) | (refine Both.mk ?_ ?_ <;> conv => whnf) | fail)
    exact ⟨rfl, ⟨n, sg, rfl, hok, close (F' := logR l d pre n sg af ++ F) hL hB⟩⟩
  | true =>
  rw [if_pos rfl, if_pos rfl, if_pos rfl]
  have hD := close (F' := logR l d pre n sg af ++ F) hL hB
  clear hL hB close
  conv => whnf
  repeat (first | (refine RunH ?_; intro w hL hB; try clear w) | (refine Both.mk ?_ ?_ <;> conv => whnf) | fail)
  refine V.loop (α := List Sg × Wn × List Fl) (fun z => [(0, .pointer (some ⟨l, 0, none⟩)), (1, .int .i64 i)])
    (fun z w' => dropR pre i af (sg.map Sg.wg) S = dropR pre i af (z.1.map Sg.wg) z.2.2 ∧ z.2.1.ok (ptrs z.1) ∧ (∀ s ∈ z.1, s.first ≤ 99999999 ∧ s.es.length ≤ 4000000000) ∧ z.1.length ≤ 1000000000 ∧ DkS B w0 w' d room z.2.2 (logR l d pre z.2.1 z.1 af ++ F))
    (fun z => z.1.length) (sg, n, S) ⟨rfl, rfl, trivial⟩ ⟨rfl, hok, hbs, hlen, hD⟩ ?_
  clear hD hbs hlen hsl hok hmay hw
  rintro ⟨sg1, n1, S1⟩ w ⟨hdr, hok, hbs, hlen, hD⟩
  dsimp only at hdr hok hbs hlen hD ⊢
  rw [hdr]
  obtain ⟨dL, hL, hB, close⟩ := hD.open
  clear hD
  have hps : (ptrs sg1).length = sg1.length := by simp [ptrs]
  have hsl : Sl w (n1.val (ptrs sg1)) (ptrs sg1) := Wn.sl hok hL (fun R hR => by simp [logR]; exact .inr (.inl hR))
  obtain ⟨va, vc, hv⟩ := hsl.shape
  rw [hps] at hv
  have hlC : logC d pre n1 sg1 af = [.pointer (some ⟨d, 0, none⟩), .string pre, .slice va sg1.length vc, .int .i64 (af : Int)] := by rw [logC, hv]
  cases sg1 with
  | nil =>
    replace hL : Sep Tryz.prog B w0 w (.blk l [.pointer (some ⟨d, 0, none⟩), .string pre, .slice va 0 vc, .int .i64 (af : Int)] 65 :: ((n1.res (ptrs []) ++ [] ++ F) ++ dL)) := by
      have h : Sep Tryz.prog B w0 w (.blk l (logC d pre n1 [] af) 65 :: ((n1.res (ptrs []) ++ [] ++ F) ++ dL)) := hL
      rw [hlC] at h; exact h
    have back : ∀ {w' : World}, Sep Tryz.prog B w0 w' (.blk l [.pointer (some ⟨d, 0, none⟩), .string pre, .slice va 0 vc, .int .i64 (af : Int)] 65 :: ((n1.res (ptrs []) ++ [] ++ F) ++ dL)) → Sep Tryz.prog B w0 w' (logR l d pre n1 [] af ++ F ++ dL) := by
      intro w' h
      have h2 : Sep Tryz.prog B w0 w' (.blk l (logC d pre n1 [] af) 65 :: ((n1.res (ptrs []) ++ [] ++ F) ++ dL)) := by rw [hlC]; exact h
      exact h2
    repeat (first | (refine RunH ?_; intro w hL hB; try clear w) | (refine Both.mk ?_ ?_ <;> conv => whnf) | fail)
    exact ⟨rfl, ⟨n1, [], rfl, hok, close (F' := logR l d pre n1 [] af ++ F) (back hL) hB⟩⟩
  | cons s rest =>
    cases n1 with
    | no => cases hok
    | «at» g pr post c =>
    obtain ⟨k1, k2, k3⟩ := hok
    rw [hps, List.length_cons] at k1 k3
    obtain ⟨hsf, hse⟩ := hbs s (.head _)
    rw [List.length_cons] at hlen
    have hnm : (wnm pre s.first).size ≤ 1000000 := by rw [wnm_size hsf]; omega
    obtain ⟨W, hW⟩ : ∃ W, W = ((Wn.at g pr post c).res (ptrs (s :: rest)) ++ ((s.eR :: s.xR :: s.es.map En.res) ++ rest.flatMap Sg.res)) ++ F := ⟨_, rfl⟩
    have hvv : (Wn.at g pr post c).val (ptrs (s :: rest)) = .slice (some ⟨g, pr.length, none⟩) (rest.length + 1) c := by simp [Wn.val, ptrs]
    have h2 : logR l d pre (Wn.at g pr post c) (s :: rest) af ++ F ++ dL = ((.blk l (logC d pre (Wn.at g pr post c) (s :: rest) af) 65) :: ((Wn.at g pr post c).res (ptrs (s :: rest)) ++ ([] ++ (s.hd :: (s.eR :: s.xR :: s.es.map En.res) ++ rest.flatMap Sg.res)))) ++ F ++ dL := by
      rw [logR]; simp [Sg.res]
    have h1 := perm_pick (.blk l (logC d pre (Wn.at g pr post c) (s :: rest) af) 65) s.hd ((Wn.at g pr post c).res (ptrs (s :: rest))) [] (s.eR :: s.xR :: s.es.map En.res) (rest.flatMap Sg.res) F dL
    rw [← h2] at h1
    have hsl2 : ∀ {w' : World} {R1 : List Res}, Sep Tryz.prog B w0 w' (R1 ++ (W ++ dL)) → Row w' g pr.length (ptrs (s :: rest)) ∧ Sl w' s.ev (s.es.map En.v) := fun h => by
      have hok : (Wn.at g pr post c).ok (ptrs (s :: rest)) := ⟨by rw [hps, List.length_cons]; exact k1, k2, by rw [hps, List.length_cons]; exact k3⟩
      refine ⟨?_, ?_⟩
      · have := Wn.sl hok h (fun R hR => by rw [hW]; exact List.mem_append_right _ (List.mem_append_left _ (List.mem_append_left _ (List.mem_append_left _ hR))))
        exact this.rowOf'
      · exact RowC.sl (show RowC _ _ s.ev s.es.length _ from h.hold s.eR (by rw [hW]; simp))
    replace hL : Sep Tryz.prog B w0 w (.blk l [.pointer (some ⟨d, 0, none⟩), .string pre, .slice (some ⟨g, pr.length, none⟩) (rest.length + 1) c, .int .i64 (af : Int)] 65 :: .blk s.b [.int .i64 (s.first : Int), s.ev, s.xv, .bool s.dirty] 80 :: (W ++ dL)) := by
      have := hL.perm h1
      rw [logC, hvv] at this
      rw [hW]; exact this
    have back : ∀ {w' : World}, Sep Tryz.prog B w0 w' (.blk l [.pointer (some ⟨d, 0, none⟩), .string pre, .slice (some ⟨g, pr.length, none⟩) (rest.length + 1) c, .int .i64 (af : Int)] 65 :: .blk s.b [.int .i64 (s.first : Int), s.ev, s.xv, .bool s.dirty] 80 :: (W ++ dL)) → Sep Tryz.prog B w0 w' (logR l d pre (Wn.at g pr post c) (s :: rest) af ++ F ++ dL) := fun h => by
      rw [hW] at h
      refine Sep.perm ?_ h1.symm
      rw [logC, hvv]; exact h
    clear h1 h2 hlC hv
    repeat (first | (refine RunH ?_; intro w hL hB; try clear w) | (refine Both.mk ?_ ?_ <;> conv => whnf) | fail)
    intro o1 ho1
    conv => whnf
    repeat (first | (refine RunH ?_; intro w hL hB; try clear w) | (refine Both.mk ?_ ?_ <;> conv => whnf) | fail)
    refine Ld.row1 ttOk (hsl2 (R1 := [_, _]) hL).1 rfl rfl (k := 0) (v := .pointer (some ⟨s.b, 0, none⟩)) rfl (by omega) ?_
    conv => whnf
    refine V.seq ?_
    refine V.join (α := Unit) (fun _ => [(0, .pointer (some ⟨l, 0, none⟩)), (1, .int .i64 i), (5, .pointer (some ⟨s.b, 0, none⟩))])
      (fun _ w' => (¬ i < ((s.first + s.es.length : Nat) : Int)) ∧ (¬ (rest = [] ∧ i ≠ (af : Int))) ∧ B ≤ w'.heap.size ∧ Sep Tryz.prog B w0 w' (.blk l [.pointer (some ⟨d, 0, none⟩), .string pre, .slice (some ⟨g, pr.length, none⟩) (rest.length + 1) c, .int .i64 (af : Int)] 65 :: .blk s.b [.int .i64 (s.first : Int), s.ev, s.xv, .bool s.dirty] 80 :: (W ++ dL))) ?_ ?_
    · repeat (first | (refine RunH ?_; intro w hL hB; try clear w) | (refine Both.mk ?_ ?_ <;> conv => whnf) | fail)
      refine (segNext_fn w (hL.hold _ (.tail _ (.head _))) (hsl2 (R1 := [_, _]) hL).2 (by omega) (by rw [List.length_map]; omega)).mono fun r w ⟨hr, hw⟩ => ?_
      subst hr
      replace hL := hL.call hB (Turns.of_below hw)
      replace hB := Nat.le_trans hB hw.size
      rw [List.length_map]
      by_cases hn : i < ((s.first + s.es.length : Nat) : Int)
      · have he : dropR pre i af ((s :: rest).map Sg.wg) S1 = ((s :: rest).map Sg.wg, S1) := by
          rw [List.map_cons, dropR, if_pos (.inl (by simpa [Wg.next, Sg.wg] using hn))]
        rw [he]
        conv => whnf
        repeat (first | (refine RunH ?_; intro w hL hB; try clear w) | (refine Both.mk ?_ ?_ <;> conv => whnf) | fail)
        exact ⟨rfl, ⟨Wn.at g pr post c, s :: rest, rfl, ⟨by rw [hps, List.length_cons]; exact k1, k2, by rw [hps, List.length_cons]; exact k3⟩, close (F' := logR l d pre (Wn.at g pr post c) (s :: rest) af ++ F) (back hL) hB⟩⟩
      by_cases hlast : rest = [] ∧ i ≠ (af : Int)
      · have he : dropR pre i af ((s :: rest).map Sg.wg) S1 = ((s :: rest).map Sg.wg, S1) := by
          rw [List.map_cons, dropR, if_pos (.inr ⟨by rw [hlast.1]; rfl, hlast.2⟩)]
        rw [he]
        have hl1 : ((rest.length + 1 : Nat) : Int) = 1 := by rw [hlast.1]; rfl
        have hl2 := hlast.2
        conv => whnf
        repeat (first | (refine RunH ?_; intro w hL hB; try clear w) | (refine Both.mk ?_ ?_ <;> conv => whnf) | fail)
        exact ⟨rfl, ⟨Wn.at g pr post c, s :: rest, rfl, ⟨by rw [hps, List.length_cons]; exact k1, k2, by rw [hps, List.length_cons]; exact k3⟩, close (F' := logR l d pre (Wn.at g pr post c) (s :: rest) af ++ F) (back hL) hB⟩⟩
      have hn2 : ¬ ((s.first + s.es.length : Nat) : Int) > i := by omega
      by_cases hr0 : rest.length = 0
      · have hia : i = (af : Int) := by
          rcases Decidable.em (i = (af : Int)) with h | h
          · exact h
          · exact absurd ⟨List.eq_nil_of_length_eq_zero hr0, h⟩ hlast
        have hl1 : ((rest.length + 1 : Nat) : Int) = 1 := by omega
        conv => whnf
        repeat (first | (refine RunH ?_; intro w hL hB; try clear w) | (refine Both.mk ?_ ?_ <;> conv => whnf) | fail)
        exact ⟨(), ⟨rfl, rfl, rfl, trivial⟩, hn, hlast, hB, hL⟩
      · have hl1 : ¬ ((rest.length + 1 : Nat) : Int) = 1 := by omega
        conv => whnf
        repeat (first | (refine RunH ?_; intro w hL hB; try clear w) | (refine Both.mk ?_ ?_ <;> conv => whnf) | fail)
        exact ⟨(), ⟨rfl, rfl, rfl, trivial⟩, hn, hlast, hB, hL⟩
    clear hL hB
    rintro _ w ⟨hn, hlast, hB, hL⟩
    have he : dropR pre i af ((s :: rest).map Sg.wg) S1 = dropR pre i af (rest.map Sg.wg) (delS S1 (wnm pre s.first)) := by
      rw [List.map_cons, dropR, if_neg]
      · rfl
      · rintro (h | ⟨h, h'⟩)
        · exact hn (by simpa [Wg.next, Sg.wg] using h)
        · exact hlast ⟨List.map_eq_nil_iff.1 h, h'⟩
    rw [he]
    refine V.seq ?_
    refine V.tree ttOk (fun x => Blk x l [.pointer (some ⟨d, 0, none⟩), .string pre, .slice (some ⟨g, pr.length, none⟩) (rest.length + 1) c, .int .i64 (af : Int)] 65 ∧ Blk x s.b [.int .i64 (s.first : Int), s.ev, s.xv, .bool s.dirty] 80) (.q 0 (.q 1 (.q 2 (.q 3 (.q 4 (.q 5 (.q 6 (.q 7 (.q 8 (.alt 9 (.alt 10 .nil .stop) .stop)))))))))) mixed (by decide +kernel) ⟨hL.drew.hold _ (.head _), hL.drew.hold _ (.tail _ (.head _))⟩ ?_
    replace hL := hL.drew
    conv => whnf
    repeat' (first | (refine RunH ?_; intro w hL hB; try clear w) | (refine Br.dec (fun hbr => ?_) (fun hbr => ?_) <;> conv => whnf) | (refine Br.mk (fun hbr => ?_) (fun hbr => ?_) <;> conv => whnf) | (refine Both.mk ?_ ?_ <;> conv => whnf) | (refine Lq.of_class (fun x hx => Ld.blk ttOk rfl rfl hx.1 rfl rfl) ?_; conv => whnf) | (refine Lq.of_class (fun x hx => Ld.blk ttOk rfl rfl hx.2 rfl rfl) ?_; conv => whnf) | fail)
    refine (name_fn s.first hsf (by omega) _ (hL.hold _ (.head _)) (ht _ hL.below)).mono fun r w ⟨hr, hw⟩ => ?_
    subst hr
    replace hL := hL.call hB (Turns.of_below hw)
    replace hB := Nat.le_trans hB hw.size
    conv => whnf
    refine And.intro ⟨hL.hold _ (.head _), hL.hold _ (.tail _ (.head _))⟩ ?_
    conv => whnf
    refine (remove_fn (wnm pre s.first) hnm (close (F' := .blk l _ _ :: .blk s.b _ _ :: W) hL hB)).mono fun r w ⟨hr, hD⟩ => ?_
    subst hr
    clear hL hB close
    obtain ⟨dL, hL, hB, close⟩ := hD.open
    clear hD
    conv => whnf
    refine And.intro ⟨hL.hold _ (.head _), hL.hold _ (.tail _ (.head _))⟩ ?_
    conv => whnf
    repeat (first | (refine RunH ?_; intro w hL hB; try clear w) | (refine Both.mk ?_ ?_ <;> conv => whnf) | fail)
    intro o2 n2 c2 r1 r2 r3 r4
    conv => whnf
    repeat (first | (refine RunH ?_; intro w hL hB; try clear w) | (refine Both.mk ?_ ?_ <;> conv => whnf) | fail)
    have hpr : (ptrs rest).length = rest.length := by simp [ptrs]
    obtain ⟨m, hm1, hm2, hm3⟩ := Wn.tail (g := g) (pr := pr) (post := post) (c := c) (p := .pointer (some ⟨s.b, 0, none⟩)) (ps := ptrs rest) ⟨by rw [List.length_cons, hpr]; exact k1, k2, by rw [List.length_cons, hpr]; exact k3⟩ (o1 := o2) (n1 := n2) (c1 := c2) (fun h => by have := r1 (by omega); omega) (fun h => by have := r2 (by omega); omega) (by omega) (by omega)
    refine ⟨(rest, m, delS S1 (wnm pre s.first)), ⟨rfl, rfl, trivial⟩, ⟨rfl, hm2, fun q hq => hbs q (List.mem_cons_of_mem _ hq), by dsimp only; omega, ?_⟩, by simp⟩
    refine close (F' := logR l d pre m rest af ++ F) ?_ hB
    have hps2 : ptrs (s :: rest) = .pointer (some ⟨s.b, 0, none⟩) :: ptrs rest := rfl
    rw [hW, hps2, ← hm3] at hL
    rw [logR, logC, hm1]
    refine hL.sub ?_
    refine (List.Sublist.cons _ ?_).cons_cons _
    refine List.Sublist.append ?_ (List.Sublist.refl _)
    refine List.Sublist.append ?_ (List.Sublist.refl _)
    refine List.Sublist.append (List.Sublist.refl _) ?_
    exact List.sublist_append_right _ _
end Go.Proofs.YtjafamiaahabgaaGreatDoor
