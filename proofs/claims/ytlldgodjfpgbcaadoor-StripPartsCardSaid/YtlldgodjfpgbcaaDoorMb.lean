/- shard.Sums. Nothing is claimed here. -/
import Derived.Test.YtlldgodjfpgbcaaDoorMa
import Derived.Lib.SmallJoins
namespace Go.Proofs.YtlldgodjfpgbcaaDoor
open Go.RowKit
set_option linter.unusedVariables false
set_option linter.unusedSimpArgs false
set_option maxRecDepth 100000

def sumsB (n m : Nat) (D : List (List UInt8)) : List (List UInt8) := (List.range m).map fun i => blendB n (codeRow D.length i) D
theorem codeM_drop (k m : Nat) : (codeM k m).drop k = (List.range m).map (codeRow k) := by
  unfold codeM
  rw [List.drop_append, List.drop_eq_nil_of_le (by simp [oneM])]
  simp [oneM]

theorem sums_fn (vd : Value) (D : List (List UInt8)) (m n : Nat) (h1 : 1 ≤ D.length) (h2 : D.length + m ≤ 14) (hn : 0 < n) (hD : ∀ l ∈ D, l.length = n) (hl : n ≤ 140737488355328) (w : World) (hdd : SS w vd D) :
    Fn Tryd.prog 23 #[vd, .int .i64 m] w fun r w' => ∃ u, r = .tuple #[u, .int .i64 0] ∧ Mat w' w.heap.size u (sumsB n m D) ∧ Below w.heap.size w w' := by
  obtain ⟨ds, hds, hdi⟩ := hdd.of
  have hdl := hdi.len
  have hle2 := hds.le
  obtain ⟨a2, cp2, rfl⟩ := hds.shape
  rw [hdl] at hds hle2 hdd ⊢
  refine Fn.mk Tryd.func23 rfl (by kernel_rfl) Tryd.ntmps23 rfl (by rw [Tryd.results23]) ?_
  refine RunR ?_
  refine (code_fn D.length m h1 h2 w).mono fun r w1 ⟨u, hr, hm, hW⟩ => ?_
  subst hr
  conv => whnf
  refine RunR ?_
  have hds1 := hds.below hW
  have hdi1 := hdi.below hW
  refine V.loop (α := Nat) (fun i => [(0, .slice a2 D.length cp2), (6, u), (20, .slice a2 D.length cp2), (21, .int .i64 D.length), (22, .int .i64 i)])
    (fun i w' => i ≤ D.length ∧ w' = w1)
    (fun i => D.length - i) 0 ⟨rfl, rfl, rfl, rfl, rfl, trivial⟩ ⟨by omega, rfl⟩ ?_
  rintro i w2 ⟨hi, rfl⟩
  refine RunR ?_
  refine Br.dec (fun h => ?_) (fun h => ?_)
  · have hil : i < D.length := by omega
    obtain ⟨ue, hue, hse⟩ := hdi1.get (List.getElem?_eq_getElem hil)
    obtain ⟨u0, hu0, hs0⟩ := hdi1.get (List.getElem?_eq_getElem (by omega : 0 < D.length))
    obtain ⟨b1, o1, rfl, hr1⟩ := hds1.addr (by omega)
    obtain ⟨a3, c3, rfl⟩ := hse.shape
    obtain ⟨a4, c4, rfl⟩ := hs0.shape
    have e1 : D[i].length = n := hD _ (List.getElem_mem hil)
    have e2 : D[0].length = n := hD _ (List.getElem_mem (by omega))
    simp only [bv_length, e1, e2] at *
    refine RunR ?_
    intro o' ho'
    conv => whnf
    refine Ld.one ttOk tl22 rfl (hr1.at hue (by omega)) ?_
    conv => whnf
    refine RunR ?_
    intro o4 ho4
    conv => whnf
    refine RunR ?_
    refine Ld.one ttOk tl22 rfl (hr1.at hu0 (by omega)) ?_
    conv => whnf
    refine RunR ?_
    exact ⟨i + 1, ⟨rfl, rfl, rfl, rfl, rfl, trivial⟩, ⟨by omega, rfl⟩, (by first | omega | (dsimp only; omega))⟩
  · obtain rfl : i = D.length := by omega
    obtain ⟨us, hmo, hmi⟩ := hm.of
    have hmo' := hmo
    rw [codeM_len] at hmo
    obtain ⟨g, cp, rfl⟩ := Joins.ownsRow_form hmo (by omega)
    have hsl := Sl.of_own hmo
    obtain ⟨q1, q2, q3⟩ := hsl.len
    have hul := hmi.len
    refine RunR ?_
    intro o' n' c' ho' ho2 hn' hc'
    conv => whnf
    refine RunR ?_
    obtain rfl : n' = m := by omega
    have hsd : SS w2 (.slice (some ⟨g, o', none⟩) n' c') ((codeM D.length n').drop D.length) := ⟨us.drop D.length, hsl.drop (by omega) (fun h => by have := ho' (by omega); omega) (by omega) (by omega), hmi.ins.drop _⟩
    rw [codeM_drop] at hsd
    refine (times_fn _ _ _ D n D[0] (List.getElem?_eq_getElem (by omega)) (hD _ (List.getElem_mem (by omega))) hD ?_ hl ?_ w2 hsd ⟨ds, hds1, hdi1⟩).mono fun r w3 ⟨hm3, hW3⟩ => ?_
    · intro l hl
      obtain ⟨i, _, rfl⟩ := List.mem_map.1 hl
      rw [codeRow_len]; exact Nat.le_refl _
    · simp; omega
    conv => whnf
    refine RunR ?_
    refine ⟨r, rfl, ?_, hW.trans (hW3.mono hW.size)⟩
    obtain ⟨us3, h5, h6⟩ := hm3.of
    have e : List.map (fun c => blendB n c D) (List.map (codeRow D.length) (List.range n')) = sumsB n n' D := by rw [List.map_map]; rfl
    rw [e] at h5 h6
    exact ⟨us3, own_mono h5 hW.size, ⟨h6.len, fun i u l a b => own_mono (h6.own i u l a b) hW.size, h6.sep⟩⟩

theorem Mat.mono {w : World} {base base' : Nat} {v : Value} {ls : List (List UInt8)} (h : Mat w base v ls) (hb : base' ≤ base) : Mat w base' v ls := by
  obtain ⟨us3, h5, h6⟩ := h.of
  exact ⟨us3, own_mono h5 hb, ⟨h6.len, fun i u l a b => own_mono (h6.own i u l a b) hb, h6.sep⟩⟩

end Go.Proofs.YtlldgodjfpgbcaaDoor
