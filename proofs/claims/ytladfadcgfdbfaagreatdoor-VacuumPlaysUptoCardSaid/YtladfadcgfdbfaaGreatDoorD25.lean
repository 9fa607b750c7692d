/- VolumeRots, plain. The part of XUp that is for any seat. Nothing is claimed here. -/
import Derived.Test.YtladfadcgfdbfaaGreatDoorD24
import Derived.Test.YtladfadcgfdbfaaGreatDoorD23
import Derived.Test.YtladfadcgfdbfaaGreatDoorD21
namespace Go.Proofs.YtladfadcgfdbfaaGreatDoor
open Go.RowKit
set_option linter.unusedVariables false
set_option linter.unusedSimpArgs false
set_option maxRecDepth 100000
theorem layP_mem {ps : List Pc} {q p : Pc} (h : p ∈ layP ps q) : p ∈ ps ∨ p = q := by
  unfold layP at h
  split at h
  · exact (putA_mem h).symm
  · split at h
    · exact (putA_mem h).symm
    · exact .inl h
theorem foldP_mem : ∀ (Rs : List Nd) {at_ : Nat} {ps : List Pc} {p : Pc}, p ∈ foldP at_ ps Rs → p ∈ ps ∨ p ∈ plc at_ Rs
  | [], _, _, _, h => .inl h
  | r :: rs, at_, ps, p, h => by
    rcases foldP_mem rs h with h | h
    · rcases layP_mem h with h | rfl
      · exact .inl h
      · exact .inr (by simp [plc])
    · exact .inr (by simp [plc, h])
section
variable {H : List UInt8} {A C : List Nd} {r : Nd} {k c : Nat} {z : UInt8} (hr : OkRec r)
end
end Go.Proofs.YtladfadcgfdbfaaGreatDoor
namespace Go.Proofs.YtladfadcgfdbfaaGreatDoor
open Go.RowKit
open Go.Maps (Keyed)
set_option linter.unusedVariables false
set_option linter.unusedSimpArgs false
set_option maxRecDepth 100000
def noPc (k : Nat) : Pc := ⟨k, 0, 0, 0, false⟩
def plsOf (ps : List Pc) : List Pc := (sortedK ps).map fun k => (getP ps k).getD (noPc k)
theorem sortedK_len (ps : List Pc) : (sortedK ps).length = ps.length := by rw [sortedK, List.length_mergeSort, List.length_map]
theorem sortedK_mem {ps : List Pc} {k : Nat} : k ∈ sortedK ps ↔ k ∈ ps.map Pc.key := by rw [sortedK, List.mem_mergeSort]
theorem getP_some' {ps : List Pc} {k : Nat} (h : k ∈ ps.map Pc.key) : ∃ p ∈ ps, p.key = k ∧ getP ps k = some p := by
  cases hg : getP ps k with
  | none =>
    obtain ⟨p, hp, he⟩ := List.mem_map.1 h
    exact absurd he (getA_none hg p hp)
  | some p =>
    obtain ⟨h1, h2⟩ := getA_some hg
    exact ⟨p, h2, h1, rfl⟩
section
variable {B : Nat} {w0 w : World} {L : List Res}
theorem Rv.pcGet (hL : Sep Tryz.prog B w0 w L) {K : Value → World → Prop} (n : Nat) {m : Nat} {ps : List Pc} {k : Nat} {p : Pc} (hn : L[n]? = some (.mp 38 m (ps.map pcE))) (hnd : NdP ps) (hk64 : k < 18446744073709551616) (hg : getP ps k = some p) (hk : K (pcV p) w) :
    Rv Tryz.prog (Instr.lookup 98 (.map (some m)) (q64 k) false) w K := by
  refine Rv.seekS ttOk hL u64K n tl98 tl87 hn (good64 hk64) fun u ok hgot => ?_
  rcases got_assoc (key := Pc.key) (enc := encK) (val := pcV) encK_inj hnd hgot with ⟨a, h1, rfl, rfl⟩ | ⟨h1, rfl, rfl⟩
  · rw [getP, h1] at hg; cases hg; exact hk
  · rw [getP, h1] at hg; cases hg
variable {d v m room id : Nat} {nm : ByteArray} {S : List Fl} {ps : List Pc} {F : List Res}
set_option maxHeartbeats 4000000 in
theorem vplaces_fn (hnd : NdP ps) (hok : OkP ps) (hps : ps.length ≤ 1000000) (hD : DkS B w0 w d room S (.blk v (volC d id nm m) 100 :: .mp 38 m (ps.map pcE) :: F)) :
    Fn Tryz.prog 32 #[ptr v] w fun r w' => DkS B w0 w' d room S (.row 87 5 r ps.length ((plsOf ps).flatMap pcC) :: .blk v (volC d id nm m) 100 :: .mp 38 m (ps.map pcE) :: F) := by
  obtain ⟨dL, hL, hB, close⟩ := hD.open
  rw [volC] at hL
  have hpl : (plsOf ps).length = ps.length := by rw [plsOf, List.length_map, sortedK_len]
  refine Fn.mk Tryz.func32 rfl (by kernel_rfl) Tryz.ntmps32 rfl (by rw [Tryz.results32]) ?_
  repeat (first | (refine RunH ?_; intro w hL hB; try clear w) | (refine Both.mk ?_ ?_ <;> conv => whnf) | fail)
  refine (keysFnQ 1 rfl hL hB).mono fun r w ⟨c, hr, hL, hB⟩ => ?_
  subst hr
  conv => whnf
  repeat (first | (refine RunH ?_; intro w hL hB; try clear w) | (refine Both.mk ?_ ?_ <;> conv => whnf) | fail)
  refine (sortedFnQ c 1 rfl hnd hps hL hB).mono fun r w ⟨hL, hB⟩ => ?_
  obtain ⟨sa, sc, rfl⟩ := (show SlN w 1 r _ _ from hL.rowN (i := 0) rfl).shape
  replace hL := hL.addRow hB (Below.refl _ _) (e := 87) (sz := 5) (v := .slice none 0 0) (n := 0) (xs := []) ⟨rfl, .inl ⟨rfl, rfl⟩⟩
  conv => whnf
  repeat (first | (refine RunH ?_; intro w hL hB; try clear w) | (refine Both.mk ?_ ?_ <;> conv => whnf) | fail)
  refine V.loop (α := Nat × Option Addr × Nat) (fun z => [(0, ptr v), (3, .slice z.2.1 z.1 z.2.2), (13, .slice sa ps.length sc), (14, .int .i64 (ps.length : Int)), (15, .int .i64 (z.1 : Int))])
    (fun z w' => z.1 ≤ ps.length ∧ Sep Tryz.prog B w0 w' (.row 87 5 (.slice z.2.1 z.1 z.2.2) z.1 (((plsOf ps).take z.1).flatMap pcC) :: .row 38 1 (.slice sa ps.length sc) ps.length ((sortedK ps).map q64) :: .blk v [ptr d, .int .i64 (id : Int), .string nm, .map (some m)] 100 :: .mp 38 m (ps.map pcE) :: (F ++ dL)) ∧ B ≤ w'.heap.size) (fun z => ps.length - z.1) (0, none, 0) ⟨rfl, rfl, rfl, rfl, rfl, trivial⟩ ⟨Nat.zero_le _, hL, hB⟩ ?_
  clear hL hB
  rintro ⟨k, ra, rc⟩ w ⟨hk, hL, hB⟩
  dsimp only at hk hL ⊢
  by_cases hlt : k < ps.length
  · have hsl : k < (sortedK ps).length := by rw [sortedK_len]; exact hlt
    have hkm : (sortedK ps)[k] ∈ ps.map Pc.key := sortedK_mem.1 (List.getElem_mem hsl)
    obtain ⟨p, hp, hpk, hg⟩ := getP_some' hkm
    have hpp := hok p hp
    have htk : (plsOf ps).take (k + 1) = (plsOf ps).take k ++ [p] := by
      rw [List.take_succ_eq_append_getElem (by omega)]
      congr 2
      simp only [plsOf, List.getElem_map, hg, Option.getD_some]
    have hx1 : ((sortedK ps).map q64)[k]? = some (q64 (sortedK ps)[k]) := by rw [List.getElem?_map, List.getElem?_eq_getElem hsl]; rfl
    have hrow : ∃ b o, sa = some ⟨b, o, none⟩ ∧ Row w b o ((sortedK ps).map q64) := (show Sl w (.slice sa ps.length sc) _ from hL.row (i := 1) rfl).addr (by omega)
    obtain ⟨bb, o, rfl, hrow⟩ := hrow
    generalize hkk : (sortedK ps)[k] = kk at *
    repeat (first | (refine RunH ?_; intro w hL hB; try clear w) | (refine Both.mk ?_ ?_ <;> conv => whnf) | fail)
    intro o1 ho1
    conv => whnf
    refine Ld.row1 ttOk hrow (k := k) tl38 rfl hx1 (by omega) ?_
    conv => whnf
    repeat (first | (refine RunH ?_; intro w hL hB; try clear w) | (refine Both.mk ?_ ?_ <;> conv => whnf) | (refine Rv.pcGet hL 3 rfl hnd (by omega) hg ?_; conv => whnf) | fail)
    refine Rv.buildS (len := 1) (vs := [pcV p]) ttOk hL tl73 tl87 rfl rfl (by intro u hu; simp only [List.mem_singleton] at hu; subst hu; rfl) (by decide) (by decide) hB fun bo w hL hB => ?_
    replace hL : Sep Tryz.prog B w0 w (.row 87 5 (.slice (some ⟨bo, 0, none⟩) 1 1) 1 (pcC p) :: _) := hL
    conv => whnf
    repeat (first | (refine RunH ?_; intro w hL hB; try clear w) | (refine Both.mk ?_ ?_ <;> conv => whnf) | fail)
    refine Rv.appendS (m := 1) ttOk hL tl73 tl87 rfl (by decide) 1 rfl (hL.rowN (i := 0) rfl) (by intro u hu; simp only [pcC, List.mem_cons, List.not_mem_nil, or_false] at hu; rcases hu with rfl | rfl | rfl | rfl | rfl <;> rfl) (by simp only [maxLen]; omega) (by omega) hB fun v' w hL hB => ?_
    dsimp only [List.set] at hL
    obtain ⟨va, vc, rfl⟩ := (show SlN w 5 v' (k + 1) _ from hL.rowN (i := 1) rfl).shape
    conv => whnf
    repeat (first | (refine RunH ?_; intro w hL hB; try clear w) | (refine Both.mk ?_ ?_ <;> conv => whnf) | fail)
    refine ⟨(k + 1, va, vc), ⟨rfl, rfl, rfl, rfl, vint (by push_cast; omega), trivial⟩, ⟨by dsimp only; omega, ?_, hB⟩, (by first | omega | (dsimp only; omega))⟩
    dsimp only
    rw [htk, List.flatMap_append]
    simpa using hL.tl
  · obtain rfl : k = ps.length := by omega
    repeat (first | (refine RunH ?_; intro w hL hB; try clear w) | (refine Both.mk ?_ ?_ <;> conv => whnf) | fail)
    rw [← hpl, List.take_length] at hL
    rw [← hpl]
    exact close (F' := _ :: _ :: _ :: F) (hL.sub (.cons_cons _ (.cons _ (.refl _)))) hB
end
end Go.Proofs.YtladfadcgfdbfaaGreatDoor
namespace Go.Proofs.YtladfadcgfdbfaaGreatDoor
open Go.RowKit
open Go.Maps (Keyed)
set_option linter.unusedVariables false
set_option linter.unusedSimpArgs false
set_option maxRecDepth 100000
theorem pcKeyed : WideMaps.KeyLaw Tryz.prog 87 := deep_law_gate (by kernel_rfl) (of_decide_eq_true (by kernel_rfl)) (of_decide_eq_true (by kernel_rfl)) (by kernel_rfl) (by kernel_rfl)
theorem pcKey : Tryz.prog.keyType 87 = true := by kernel_rfl
theorem pcSmall : 5 ≤ Tryz.prog.types.size + 1 ∧ Tryz.prog.types.size + 1 ≤ 10000 := of_decide_eq_true (by kernel_rfl)
structure PcOk (p : Pc) : Prop where
  key : p.key < 18446744073709551616
  at_ : p.at_ < 9223372036854775808
  n : p.n < 9223372036854775808
  cook : p.cook < 4294967296
theorem wfU64 {d : Nat} (h : d < 18446744073709551616) : (Lit.int .u64 (d : Int)).wf = true := by
  simp only [Lit.wf, IntKind.min, IntKind.max, IntKind.bits, IntKind.signed, Bool.and_eq_true, decide_eq_true_eq]
  simp; omega
theorem wfU32 {d : Nat} (h : d < 4294967296) : (Lit.int .u32 (d : Int)).wf = true := by
  simp only [Lit.wf, IntKind.min, IntKind.max, IntKind.bits, IntKind.signed, Bool.and_eq_true, decide_eq_true_eq]
  simp; omega
theorem wfI64 {d : Int} (h : -9223372036854775808 ≤ d ∧ d ≤ 9223372036854775807) : (Lit.int .i64 d).wf = true := by
  simp only [Lit.wf, IntKind.min, IntKind.max, IntKind.bits, IntKind.signed, Bool.and_eq_true, decide_eq_true_eq]
  simp; omega
theorem pcGood (p : Pc) (h : PcOk p) : Good Tryz.prog 87 (.agg (pcC p).toArray) := by
  refine good_struct ttOk 5 tl87 pcKey pcSmall.1 (cs := pcC p) ?_
  have h1 := h.at_
  have h2 := h.n
  exact ⟨rfl, wfU64 h.key, wfI64 (by omega), wfI64 (by omega), wfU32 h.cook, trivial, trivial⟩
theorem Eg.pc {p : Pc} {K : Bool → Prop} (hp : PcOk p) (h : K true) : Eg Tryz.prog 87 (pcC p).toArray (pcC p).toArray K := by
  refine Eg.key pcKeyed pcSmall.2 pcKey (by kernel_rfl) (by kernel_rfl) (pcGood p hp) (pcGood p hp) fun r hr => ?_
  rw [hr.2 rfl]
  exact h
theorem pcC_flat (l : List Pc) : (l.flatMap pcC).length = 5 * l.length := by
  induction l with
  | nil => rfl
  | cons a l ih => rw [List.flatMap_cons, List.length_append, ih, pcC_len, List.length_cons]; omega
end Go.Proofs.YtladfadcgfdbfaaGreatDoor
