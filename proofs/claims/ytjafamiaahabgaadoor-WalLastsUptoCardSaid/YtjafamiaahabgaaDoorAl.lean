/- wal: Get. Nothing is claimed here. -/
import Derived.Test.YtjafamiaahabgaaDoorAk
namespace Go.Proofs.YtjafamiaahabgaaDoor
open Go.RowKit Go.Lib
set_option linter.unusedVariables false
set_option linter.unusedSimpArgs false
set_option maxRecDepth 100000

/-- the segments stand behind one another -/
def apartW (G : List Wg) : Prop := ∀ (x y : Nat) (p q : Wg), x < y → G[x]? = some p → G[y]? = some q → p.first < q.first ∧ p.next ≤ q.first
def findW (G : List Wg) (i : Int) : Option Wg := G.find? fun g => decide ((g.first : Int) ≤ i ∧ i < (g.next : Nat))
def getW (G : List Wg) (i : Int) : Option (List UInt8) := (findW G i).map fun g => g.es.getD (i - g.first).toNat []
theorem apart_wg {sg : List Sg} (h : apartW (sg.map Sg.wg)) : Go.Proofs.YtjafamiaahabgaaDoor.apart sg := by
  intro x y p q hxy hp hq
  have := h x y p.wg q.wg hxy (by rw [List.getElem?_map, hp]; rfl) (by rw [List.getElem?_map, hq]; rfl)
  simpa [Sg.wg, Wg.next] using this
theorem find_wg (sg : List Sg) (i : Int) : findW (sg.map Sg.wg) i = (findSg sg i).map Sg.wg := by
  rw [findW, findSg, List.find?_map]
  congr 2
  funext s
  simp [Sg.wg, Wg.next]
theorem lenW_mem : ∀ {xs : List (List UInt8)} {n : Nat} {x : List UInt8}, x ∈ xs → x.length ≤ lenW n xs
  | y :: xs, n, x, h => by
    rcases List.mem_cons.1 h with rfl | h
    · rw [lenW, recL]; omega
    · have := lenW_mem (n := n + 1) h
      rw [lenW]; omega
set_option maxHeartbeats 8000000 in
theorem logGet_fn {B d l room : Nat} {pre : ByteArray} {S : List Fl} {G : List Wg} {af : Nat} {F : List Res} (i : Int) (hi : -9223372036854775807 ≤ i ∧ i ≤ 9223372036854775807) {w0 w : World} (hlen : G.length ≤ 1000000000) (hfs : ∀ g ∈ G, g.first ≤ 99999999 ∧ g.size ≤ 1073741824) (hap : apartW G) (hG : LgS B w0 w d l pre room S G af F) :
    Fn Tryd.prog 10 #[.pointer (some ⟨l, 0, none⟩), .int .i64 i] w fun r w' => match getW G i with
      | some x => ∃ u, r = .tuple #[u, .int .i64 0] ∧ LgS B w0 w' d l pre room S G af (.row 5 1 u x.length (bv x) :: F)
      | none => r = .tuple #[.slice none 0 0, .int .i64 7] ∧ LgS B w0 w' d l pre room S G af F := by
  obtain ⟨n, sg, rfl, hok, hD⟩ := hG.of
  clear hG
  rw [List.length_map] at hlen
  obtain ⟨dL, hL, hB, close⟩ := hD.open
  clear hD
  have hm : ∀ {w' : World} {R1 : List Res}, Sep Tryd.prog B w0 w' (R1 ++ (logR l d pre n sg af ++ F ++ dL)) → ∀ s ∈ sg, ∀ R ∈ s.res, R.holds Tryd.prog w' := fun h s hs R hR => h.hold R (List.mem_append_right _ (List.mem_append_left _ (List.mem_append_left _ (by
    rw [logR]
    refine List.mem_cons_of_mem _ (List.mem_append_right _ ?_)
    exact List.mem_flatMap.2 ⟨s, hs, hR⟩))))
  have hbs : ∀ s ∈ sg, s.first ≤ 4000000000 ∧ s.es.length ≤ 4000000000 := fun s hs => by
    have h1 := hfs s.wg (List.mem_map.2 ⟨s, hs, rfl⟩)
    have h2 := lenW_ge s.first (s.es.map En.d)
    rw [List.length_map] at h2
    have h3 : s.wg.size = lenW s.first (s.es.map En.d) := rfl
    have h4 : s.wg.first = s.first := rfl
    omega
  have hsl : Sl w (n.val (ptrs sg)) (ptrs sg) := Wn.sl hok hL (fun R hR => by simp [logR]; exact .inr (.inl hR))
  refine Fn.mk Tryd.func10 rfl (by kernel_rfl) Tryd.ntmps10 rfl (by rw [Tryd.results10]) ?_
  repeat (first | (refine RunH ?_; intro w hL hB; try clear w) | (refine Both.mk ?_ ?_ <;> conv => whnf) | fail)
  refine (logOf_fn i hi (apart_wg hap) hlen hbs w (hL.hold (.blk l (logC d pre n sg af) 47) (.head _)) hsl (fun s hs => ⟨hm (R1 := []) hL s hs s.hd (.head _), RowC.sl (show RowC w _ s.ev s.es.length _ from hm (R1 := []) hL s hs s.eR (.tail _ (.head _)))⟩)).mono fun r w ⟨hr, hw⟩ => ?_
  subst hr
  replace hL := hL.call hB (Turns.of_below hw)
  replace hB := Nat.le_trans hB hw.size
  rw [getW, find_wg]
  cases hf : findSg sg i with
  | none =>
    conv => whnf
    repeat (first | (refine RunH ?_; intro w hL hB; try clear w) | (refine Both.mk ?_ ?_ <;> conv => whnf) | fail)
    exact ⟨rfl, ⟨n, sg, rfl, hok, close (F' := logR l d pre n sg af ++ F) hL hB⟩⟩
  | some s =>
    have hs : s ∈ sg := List.mem_of_find?_eq_some hf
    have hin := List.find?_some hf
    simp only [decide_eq_true_eq] at hin
    obtain ⟨j, hj⟩ : ∃ j : Nat, (j : Int) = i - s.first := ⟨(i - s.first).toNat, by omega⟩
    have hjl : j < s.es.length := by omega
    have g := List.getElem?_eq_getElem hjl
    generalize he : s.es[j] = e at *
    have hej : (s.es.map En.d).getD (i - s.first).toNat [] = e.d := by
      rw [← hj, Int.toNat_natCast, List.getD_eq_getElem?_getD, List.getElem?_map, g]; rfl
    have hex : e ∈ s.es := he ▸ List.getElem_mem hjl
    have hro := hm (R1 := []) hL s hs e.res (by simp [Sg.res]; exact .inr (.inr (.inr ⟨e, hex, rfl⟩)))
    obtain ⟨ea, ec, hev⟩ := hro.1.shape
    rw [bv_length] at hev
    have hxl : e.d.length ≤ 1073741824 := by
      have h1 := hfs s.wg (List.mem_map.2 ⟨s, hs, rfl⟩)
      have h2 := lenW_mem (n := s.first) (List.mem_map.2 ⟨e, hex, rfl⟩ : e.d ∈ s.es.map En.d)
      have h3 : s.wg.size = lenW s.first (s.es.map En.d) := rfl
      omega
    have hrc : ∀ {w' : World}, Sep Tryd.prog B w0 w' (logR l d pre n sg af ++ F ++ dL) → Sl w' s.ev (s.es.map En.v) := fun h => RowC.sl (show RowC _ _ s.ev s.es.length _ from hm (R1 := []) h s hs s.eR (.tail _ (.head _)))
    obtain ⟨sa, sc, hsv⟩ := (hrc hL).shape
    rw [List.length_map] at hsv
    have hge : (s.es.map En.v)[j]? = some (.slice ea e.d.length ec) := by rw [List.getElem?_map, g]; exact congrArg some hev
    obtain ⟨g1, gO, hga, _⟩ := (hsv ▸ hrc hL).addr (by omega)
    have hcl : ∀ {w' : World}, Sep Tryd.prog B w0 w' (logR l d pre n sg af ++ F ++ dL) → Blk w' s.b [.int .i64 (s.first : Int), .slice sa s.es.length sc, s.xv, .bool s.dirty] 57 ∧ Sl w' (.slice sa s.es.length sc) (s.es.map En.v) := fun h => by
      have h1 := hm (R1 := []) h s hs s.hd (.head _)
      have h2 := hrc h
      rw [hsv] at h2
      refine ⟨?_, h2⟩
      rw [← hsv]; exact h1
    have hns : ((s.first : Nat) : Int) ≤ 4000000000 := by have := (hbs s hs).1; omega
    subst hga
    have hej2 : Option.map (fun g : Wg => g.es.getD (i - g.first).toNat []) (Option.map Sg.wg (some s)) = some e.d := congrArg some hej
    rw [hej2]
    conv => whnf
    repeat (first | (refine RunK ?_; intro w hL hB; try clear w) | (refine V.treeA ttOk hL (.q 0 (.q 1 (.q 2 (.q 3 (.q 4 (.q 5 (.q 6 (.q 7 (.q 8 (.q 9 (.q 10 (.q 11 (.alt 12 (.q 13 (.q 14 .nil)) .stop))))))))))))) mixed (by decide +kernel) ?_; replace hL := hL.drew; conv => whnf) | (refine V.tailA ttOk mixed (by decide +kernel) ?_; replace hL := hL.drew; conv => whnf) | (refine Both.mk ?_ ?_ <;> conv => whnf) | (refine Lq.of_class (fun x hx => Ld.blk ttOk rfl rfl (hcl hx).1 rfl rfl) ?_; conv => whnf) | (intro o2 ho2; conv => whnf) | (refine Lq.of_class (fun x hx => Ld.row1 ttOk (hcl hx).2.rowOf' rfl rfl hge (by omega) rfl) ?_; conv => whnf) | fail)
    have hse : ∀ {w' : World}, Sep Tryd.prog B w0 w' (logR l d pre n sg af ++ F ++ dL) → Sl w' (.slice ea e.d.length ec) (bv e.d) := fun hL => by
      have := (hm (R1 := []) hL s hs e.res (by simp [Sg.res]; exact .inr (.inr (.inr ⟨e, hex, rfl⟩)))).1
      rw [hev] at this
      exact this
    refine (clone_fn _ e.d _ (hse hL) (by omega)).mono fun r w ⟨ho, hw⟩ => ?_
    replace hL := hL.addRow hB hw ho
    replace hB := Nat.le_trans hB hw.size
    obtain ⟨ka, kc, rfl⟩ := (hL.rowN (i := 0) rfl).shape
    conv => whnf
    refine And.intro hL.tl ?_
    conv => whnf
    repeat (first | (refine RunH ?_; intro w hL hB; try clear w) | (refine Both.mk ?_ ?_ <;> conv => whnf) | fail)
    refine ⟨_, rfl, ⟨n, sg, rfl, hok, ?_⟩⟩
    exact (close (F' := .row 5 1 (.slice ka e.d.length kc) e.d.length (bv e.d) :: (logR l d pre n sg af ++ F)) hL hB).perm List.perm_middle.symm
end Go.Proofs.YtjafamiaahabgaaDoor
