/- volume: Places. VolumeTwice: places. VolumeTwice. Nothing is claimed here. -/
import Derived.Test.YtpkealgeigpjpaaDoorQm
import Derived.Test.YtpkealgeigpjpaaDoorPc
import Derived.Test.YtpkealgeigpjpaaDoorOn
namespace Go.Proofs.YtpkealgeigpjpaaDoor
open Go.RowKit
open Go.Maps (Keyed)
set_option linter.unusedVariables false
set_option linter.unusedSimpArgs false
set_option maxRecDepth 100000

def noPc (k : Nat) : Pc := ⟨k, 0, 0, 0, false⟩
def plsOf (ps : List Pc) : List Pc := (sortedK ps).map fun k => (getP ps k).getD (noPc k)
theorem sortedK_len (ps : List Pc) : (sortedK ps).length = ps.length := by rw [sortedK, List.length_mergeSort, List.length_map]
theorem sortedK_mem {ps : List Pc} {k : Nat} : k ∈ sortedK ps ↔ k ∈ ps.map Pc.key := by rw [sortedK, List.mem_mergeSort]
theorem getP_some' {ps : List Pc} {k : Nat} (h : k ∈ ps.map Pc.key) : ∃ p ∈ ps, p.key = k ∧ getP ps k = some p := by
  cases hg : getP ps k with
  | none =>
    obtain ⟨p, hp, he⟩ := List.mem_map.1 h
    exact absurd he (getA_none hg p hp)
  | some p =>
    obtain ⟨h1, h2⟩ := getA_some hg
    exact ⟨p, h2, h1, rfl⟩
section
variable {B : Nat} {w0 w : World} {L : List Res}
theorem Rv.pcGet (hL : Sep Tryd.prog B w0 w L) {K : Value → World → Prop} (n : Nat) {m : Nat} {ps : List Pc} {k : Nat} {p : Pc} (hn : L[n]? = some (.mp 32 m (ps.map pcE))) (hnd : NdP ps) (hk64 : k < 18446744073709551616) (hg : getP ps k = some p) (hk : K (pcV p) w) :
    Rv Tryd.prog (Instr.lookup 61 (.map (some m)) (q64 k) false) w K := by
  refine Rv.seekS ttOk hL u64K n tl61 tl70 hn (good64 hk64) fun u ok hgot => ?_
  rcases got_assoc (key := Pc.key) (enc := encK) (val := pcV) encK_inj hnd hgot with ⟨a, h1, rfl, rfl⟩ | ⟨h1, rfl, rfl⟩
  · rw [getP, h1] at hg; cases hg; exact hk
  · rw [getP, h1] at hg; cases hg
variable {d v m room id : Nat} {nm : ByteArray} {S : List Fl} {ps : List Pc} {F : List Res}
set_option maxHeartbeats 4000000 in
theorem vplaces_fn (hnd : NdP ps) (hok : OkP ps) (hps : ps.length ≤ 1000000) (hD : DkS B w0 w d room S (.blk v (volC d id nm m) 63 :: .mp 32 m (ps.map pcE) :: F)) :
    Fn Tryd.prog 18 #[ptr v] w fun r w' => DkS B w0 w' d room S (.row 70 5 r ps.length ((plsOf ps).flatMap pcC) :: .blk v (volC d id nm m) 63 :: .mp 32 m (ps.map pcE) :: F) := by
  obtain ⟨dL, hL, hB, close⟩ := hD.open
  rw [volC] at hL
  have hpl : (plsOf ps).length = ps.length := by rw [plsOf, List.length_map, sortedK_len]
  refine Fn.mk Tryd.func18 rfl (by kernel_rfl) Tryd.ntmps18 rfl (by rw [Tryd.results18]) ?_
  repeat (first | (refine RunH ?_; intro w hL hB; try clear w) | (refine Both.mk ?_ ?_ <;> conv => whnf) | fail)
  refine (keysFnQ 1 rfl hL hB).mono fun r w ⟨c, hr, hL, hB⟩ => ?_
  subst hr
  conv => whnf
  repeat (first | (refine RunH ?_; intro w hL hB; try clear w) | (refine Both.mk ?_ ?_ <;> conv => whnf) | fail)
  refine (sortedFnQ c 1 rfl hnd hps hL hB).mono fun r w ⟨hL, hB⟩ => ?_
  obtain ⟨sa, sc, rfl⟩ := (show SlN w 1 r _ _ from hL.rowN (i := 0) rfl).shape
  replace hL := hL.addRow hB (Below.refl _ _) (e := 70) (sz := 5) (v := .slice none 0 0) (n := 0) (xs := []) ⟨rfl, .inl ⟨rfl, rfl⟩⟩
  conv => whnf
  repeat (first | (refine RunH ?_; intro w hL hB; try clear w) | (refine Both.mk ?_ ?_ <;> conv => whnf) | fail)
  refine V.loop (α := Nat × Option Addr × Nat) (fun z => [(0, ptr v), (3, .slice z.2.1 z.1 z.2.2), (13, .slice sa ps.length sc), (14, .int .i64 (ps.length : Int)), (15, .int .i64 (z.1 : Int))])
    (fun z w' => z.1 ≤ ps.length ∧ Sep Tryd.prog B w0 w' (.row 70 5 (.slice z.2.1 z.1 z.2.2) z.1 (((plsOf ps).take z.1).flatMap pcC) :: .row 32 1 (.slice sa ps.length sc) ps.length ((sortedK ps).map q64) :: .blk v [ptr d, .int .i64 (id : Int), .string nm, .map (some m)] 63 :: .mp 32 m (ps.map pcE) :: (F ++ dL)) ∧ B ≤ w'.heap.size) (fun z => ps.length - z.1) (0, none, 0) ⟨rfl, rfl, rfl, rfl, rfl, trivial⟩ ⟨Nat.zero_le _, hL, hB⟩ ?_
  clear hL hB
  rintro ⟨k, ra, rc⟩ w ⟨hk, hL, hB⟩
  dsimp only at hk hL ⊢
  by_cases hlt : k < ps.length
  · have hsl : k < (sortedK ps).length := by rw [sortedK_len]; exact hlt
    have hkm : (sortedK ps)[k] ∈ ps.map Pc.key := sortedK_mem.1 (List.getElem_mem hsl)
    obtain ⟨p, hp, hpk, hg⟩ := getP_some' hkm
    have hpp := hok p hp
    have htk : (plsOf ps).take (k + 1) = (plsOf ps).take k ++ [p] := by
      rw [List.take_succ_eq_append_getElem (by omega)]
      congr 2
      simp only [plsOf, List.getElem_map, hg, Option.getD_some]
    have hx1 : ((sortedK ps).map q64)[k]? = some (q64 (sortedK ps)[k]) := by rw [List.getElem?_map, List.getElem?_eq_getElem hsl]; rfl
    have hrow : ∃ b o, sa = some ⟨b, o, none⟩ ∧ Row w b o ((sortedK ps).map q64) := (show Sl w (.slice sa ps.length sc) _ from hL.row (i := 1) rfl).addr (by omega)
    obtain ⟨bb, o, rfl, hrow⟩ := hrow
    generalize hkk : (sortedK ps)[k] = kk at *
    repeat (first | (refine RunH ?_; intro w hL hB; try clear w) | (refine Both.mk ?_ ?_ <;> conv => whnf) | fail)
    intro o1 ho1
    conv => whnf
    refine Ld.row1 ttOk hrow (k := k) tl32 rfl hx1 (by omega) ?_
    conv => whnf
    repeat (first | (refine RunH ?_; intro w hL hB; try clear w) | (refine Both.mk ?_ ?_ <;> conv => whnf) | (refine Rv.pcGet hL 3 rfl hnd (by omega) hg ?_; conv => whnf) | fail)
    refine Rv.buildS (len := 1) (vs := [pcV p]) ttOk hL tl46 tl70 rfl rfl (by intro u hu; simp only [List.mem_singleton] at hu; subst hu; rfl) (by decide) (by decide) hB fun bo w hL hB => ?_
    replace hL : Sep Tryd.prog B w0 w (.row 70 5 (.slice (some ⟨bo, 0, none⟩) 1 1) 1 (pcC p) :: _) := hL
    conv => whnf
    repeat (first | (refine RunH ?_; intro w hL hB; try clear w) | (refine Both.mk ?_ ?_ <;> conv => whnf) | fail)
    refine Rv.appendS (m := 1) ttOk hL tl46 tl70 rfl (by decide) 1 rfl (hL.rowN (i := 0) rfl) (by intro u hu; simp only [pcC, List.mem_cons, List.not_mem_nil, or_false] at hu; rcases hu with rfl | rfl | rfl | rfl | rfl <;> rfl) (by simp only [maxLen]; omega) (by omega) hB fun v' w hL hB => ?_
    dsimp only [List.set] at hL
    obtain ⟨va, vc, rfl⟩ := (show SlN w 5 v' (k + 1) _ from hL.rowN (i := 1) rfl).shape
    conv => whnf
    repeat (first | (refine RunH ?_; intro w hL hB; try clear w) | (refine Both.mk ?_ ?_ <;> conv => whnf) | fail)
    refine ⟨(k + 1, va, vc), ⟨rfl, rfl, rfl, rfl, vint (by push_cast; omega), trivial⟩, ⟨by dsimp only; omega, ?_, hB⟩, (by first | omega | (dsimp only; omega))⟩
    dsimp only
    rw [htk, List.flatMap_append]
    simpa using hL.tl
  · obtain rfl : k = ps.length := by omega
    repeat (first | (refine RunH ?_; intro w hL hB; try clear w) | (refine Both.mk ?_ ?_ <;> conv => whnf) | fail)
    rw [← hpl, List.take_length] at hL
    rw [← hpl]
    exact close (F' := _ :: _ :: _ :: F) (hL.sub (.cons_cons _ (.cons _ (.refl _)))) hB
end
end Go.Proofs.YtpkealgeigpjpaaDoor
namespace Go.Proofs.YtpkealgeigpjpaaDoor
open Go.RowKit
open Go.Maps (Keyed)
set_option linter.unusedVariables false
set_option linter.unusedSimpArgs false
set_option maxRecDepth 100000

theorem pcKeyed : WideMaps.KeyLaw Tryd.prog 70 := deep_law_gate (by kernel_rfl) (of_decide_eq_true (by kernel_rfl)) (of_decide_eq_true (by kernel_rfl)) (by kernel_rfl) (by kernel_rfl)
theorem pcKey : Tryd.prog.keyType 70 = true := by kernel_rfl
theorem pcSmall : 5 ≤ Tryd.prog.types.size + 1 ∧ Tryd.prog.types.size + 1 ≤ 10000 := of_decide_eq_true (by kernel_rfl)
structure PcOk (p : Pc) : Prop where
  key : p.key < 18446744073709551616
  at_ : p.at_ < 9223372036854775808
  n : p.n < 9223372036854775808
  cook : p.cook < 4294967296
theorem wfU64 {d : Nat} (h : d < 18446744073709551616) : (Lit.int .u64 (d : Int)).wf = true := by
  simp only [Lit.wf, IntKind.min, IntKind.max, IntKind.bits, IntKind.signed, Bool.and_eq_true, decide_eq_true_eq]
  simp; omega
theorem wfU32 {d : Nat} (h : d < 4294967296) : (Lit.int .u32 (d : Int)).wf = true := by
  simp only [Lit.wf, IntKind.min, IntKind.max, IntKind.bits, IntKind.signed, Bool.and_eq_true, decide_eq_true_eq]
  simp; omega
theorem wfI64 {d : Int} (h : -9223372036854775808 ≤ d ∧ d ≤ 9223372036854775807) : (Lit.int .i64 d).wf = true := by
  simp only [Lit.wf, IntKind.min, IntKind.max, IntKind.bits, IntKind.signed, Bool.and_eq_true, decide_eq_true_eq]
  simp; omega
theorem pcGood (p : Pc) (h : PcOk p) : Good Tryd.prog 70 (.agg (pcC p).toArray) := by
  refine good_struct ttOk 5 tl70 pcKey pcSmall.1 (cs := pcC p) ?_
  have h1 := h.at_
  have h2 := h.n
  exact ⟨rfl, wfU64 h.key, wfI64 (by omega), wfI64 (by omega), wfU32 h.cook, trivial, trivial⟩
theorem Eg.pc {p : Pc} {K : Bool → Prop} (hp : PcOk p) (h : K true) : Eg Tryd.prog 70 (pcC p).toArray (pcC p).toArray K := by
  refine Eg.key pcKeyed pcSmall.2 pcKey (by kernel_rfl) (by kernel_rfl) (pcGood p hp) (pcGood p hp) fun r hr => ?_
  rw [hr.2 rfl]
  exact h
theorem pcC_flat (l : List Pc) : (l.flatMap pcC).length = 5 * l.length := by
  induction l with
  | nil => rfl
  | cons a l ih => rw [List.flatMap_cons, List.length_append, ih, pcC_len, List.length_cons]; omega
set_option maxHeartbeats 2000000 in
theorem placesSame_fn (v1 v2 : Value) (l : List Pc) (w : World) (hl : ∀ p ∈ l, PcOk p) (h1 : SlN w 5 v1 l.length (l.flatMap pcC)) (h2 : SlN w 5 v2 l.length (l.flatMap pcC)) :
    Fn Tryd.prog 17 #[v1, v2] w fun r w' => r = .bool true ∧ Below w.heap.size w w' := by
  have hL := Sep.start Tryd.prog w
  have hB := Nat.le_refl w.heap.size
  have hle := h1.le
  obtain ⟨a1, c1, rfl⟩ := h1.shape
  obtain ⟨a2, c2, rfl⟩ := h2.shape
  refine Fn.mk Tryd.func17 rfl (by kernel_rfl) Tryd.ntmps17 rfl (by rw [Tryd.results17]) ?_
  repeat (first | (refine RunH ?_; intro w hL hB; try clear w) | (refine Both.mk ?_ ?_ <;> conv => whnf) | fail)
  refine V.loop (α := Nat) (fun k => [(0, .slice a1 l.length c1), (1, .slice a2 l.length c2), (5, .int .i64 (k : Int))]) (fun k w' => k ≤ l.length ∧ Sep Tryd.prog w.heap.size w w' []) (fun k => l.length - k) 0 ⟨rfl, rfl, rfl, trivial⟩ ⟨Nat.zero_le _, hL⟩ ?_
  clear hL hB
  rintro k w' ⟨hk, hL⟩
  have hB := hL.below.size
  by_cases hlt : k < l.length
  · have hp := hl _ (List.getElem_mem hlt)
    have r1 : ∀ x, Sep Tryd.prog w.heap.size w x [] → ∃ b o, a1 = some ⟨b, o, none⟩ ∧ Row x b o (l.flatMap pcC) := fun x hx => (h1.below hx.below).addr (by omega)
    have r2 : ∀ x, Sep Tryd.prog w.heap.size w x [] → ∃ b o, a2 = some ⟨b, o, none⟩ ∧ Row x b o (l.flatMap pcC) := fun x hx => (h2.below hx.below).addr (by omega)
    obtain ⟨b1, o1, rfl, _⟩ := r1 _ hL
    obtain ⟨b2, o2, rfl, _⟩ := r2 _ hL
    have hx : l[k]? = some l[k] := List.getElem?_eq_getElem hlt
    repeat (first | (refine RunK ?_; intro w hL hB; try clear w) | (refine V.treeA ttOk hL (.q 0 (.q 1 (.q 2 (.q 3 (.q 4 (.q 5 (.q 6 (.q 7 (.q 8 .nil))))))))) mixed (by decide +kernel) ?_; replace hL := hL.drew; conv => whnf) | (refine V.tailA ttOk mixed (by decide +kernel) ?_; replace hL := hL.drew; conv => whnf) | (refine Both.mk ?_ ?_ <;> conv => whnf) | fail)
    intro p1 hp1
    conv => whnf
    refine Lq.of_class (fun x hx' => Ld.rowN ttOk (f := pcC) pcC_len (by obtain ⟨_, _, he, hr⟩ := r1 x hx'; cases he; exact hr) (ss := l) (o' := p1) (o := o1) (k := k) tl70 rfl rfl hx (by omega) rfl) ?_
    conv => whnf
    repeat (first | (refine RunH ?_; intro w hL hB; try clear w) | (refine Both.mk ?_ ?_ <;> conv => whnf) | fail)
    intro p2 hp2
    conv => whnf
    refine Lq.of_class (fun x hx' => Ld.rowN ttOk (f := pcC) pcC_len (by obtain ⟨_, _, he, hr⟩ := r2 x hx'; cases he; exact hr) (ss := l) (o' := p2) (o := o2) (k := k) tl70 rfl rfl hx (by omega) rfl) ?_
    conv => whnf
    refine Eg.pc hp ?_
    conv => whnf
    repeat (first | (refine RunH ?_; intro w hL hB; try clear w) | (refine Both.mk ?_ ?_ <;> conv => whnf) | fail)
    exact ⟨k + 1, ⟨rfl, rfl, vint (by push_cast; omega), trivial⟩, ⟨by omega, hL⟩, (by first | omega | (dsimp only; omega))⟩
  · obtain rfl : k = l.length := by omega
    repeat (first | (refine RunH ?_; intro w hL hB; try clear w) | (refine Both.mk ?_ ?_ <;> conv => whnf) | fail)
    exact ⟨rfl, hL.below⟩
end Go.Proofs.YtpkealgeigpjpaaDoor
namespace Go.Proofs.YtpkealgeigpjpaaDoor
open Go.RowKit
open Go.Maps (Keyed)
set_option linter.unusedVariables false
set_option linter.unusedSimpArgs false
set_option maxRecDepth 100000

def sumI (ns : List InN) (k : Nat) : Nat := ((ns.take k).map fun p => 40 + p.d.length).sum
theorem sumI_succ {ns : List InN} {k : Nat} (h : k < ns.length) : sumI ns (k + 1) = sumI ns k + (40 + (ns[k]).d.length) := by
  rw [sumI, List.take_succ_eq_append_getElem h]
  simp only [sumI, List.map_append, List.sum_append, List.map_cons, List.map_nil, List.sum_cons, List.sum_nil]
  omega
theorem sumI_le (ns : List InN) : ∀ j k, k ≤ j → j ≤ ns.length → sumI ns k + 40 * (j - k) ≤ sumI ns j
  | 0, k, h, _ => by obtain rfl : k = 0 := by omega
                     simp
  | j + 1, k, h, hj => by
    by_cases e : k = j + 1
    · subst e; simp
    · have := sumI_le ns j k (by omega) (by omega)
      rw [sumI_succ (by omega)]
      omega
theorem layP_len (ps : List Pc) (p : Pc) : (layP ps p).length ≤ ps.length + 1 := by
  have hput : (putP ps p).length ≤ ps.length + 1 := by
    have h := congrArg List.length (putA_keys (key := Pc.key) ps p)
    rw [List.length_map] at h
    show (putA Pc.key ps p).length ≤ _
    split at h
    · rw [h, List.length_map]; omega
    · rw [h, List.length_append, List.length_map]; simp
  unfold layP
  split
  · exact hput
  · split
    · exact hput
    · omega
theorem foldP_len : ∀ (Rs : List Nd) (at_ : Nat) (ps : List Pc), (foldP at_ ps Rs).length ≤ ps.length + Rs.length
  | [], _, _ => by simp [foldP]
  | r :: rs, at_, ps => by
    have := foldP_len rs (at_ + szR r) (layP ps (placeOf at_ r))
    have h2 := layP_len ps (placeOf at_ r)
    simp only [foldP, List.length_cons]
    omega
theorem foldP_nd : ∀ (Rs : List Nd) (at_ : Nat) (ps : List Pc), NdP ps → NdP (foldP at_ ps Rs)
  | [], _, _, h => h
  | r :: rs, at_, ps, h => foldP_nd rs _ _ (h.lay _)
theorem sumN_le {ps : List Pc} {c : Nat} (h : ∀ p ∈ ps, p.n ≤ c) : sumN ps ≤ ps.length * c := by
  induction ps with
  | nil => simp [sumN]
  | cons a l ih =>
    have h1 := ih fun p hp => h p (by simp [hp])
    have h2 := h a (by simp)
    simp only [sumN, List.map_cons, List.sum_cons, List.length_cons, Nat.succ_mul] at *
    omega
theorem plsOf_mem {ps : List Pc} {p : Pc} (h : p ∈ plsOf ps) : p ∈ ps := by
  obtain ⟨k, hk, rfl⟩ := List.mem_map.1 h
  obtain ⟨q, hq, _, hg⟩ := getP_some' (sortedK_mem.1 hk)
  rw [hg]; exact hq
theorem swap22 {α : Type} (a b c d : α) (X : List α) : (a :: b :: c :: d :: X).Perm (c :: d :: a :: b :: X) := by
  have h := (List.perm_append_comm (l₁ := [a, b]) (l₂ := [c, d])).append_right X
  simpa using h
theorem swap32 {α : Type} (x a b c d : α) (X : List α) : (x :: a :: b :: c :: d :: X).Perm (c :: d :: x :: a :: b :: X) := by
  have h := (List.perm_append_comm (l₁ := [x, a, b]) (l₂ := [c, d])).append_right X
  simpa using h
theorem plsOf_len (ps : List Pc) : (plsOf ps).length = ps.length := by rw [plsOf, List.length_map, sortedK_len]
theorem plsOf_ok {ps : List Pc} (h : OkP ps) : ∀ p ∈ plsOf ps, PcOk p := fun p hp => by
  obtain ⟨h1, h2, h3, h4, h5⟩ := h p (plsOf_mem hp)
  exact ⟨h1, by omega, by omega, h2⟩
set_option maxHeartbeats 8000000 in
theorem twiceV_fn (v : Value) (ns : List InN) (w0 : World) (hs : SlN w0 4 v ns.length (ns.flatMap inC)) (hns : ∀ n ∈ ns, OkN w0 n) :
    Fn Tryd.prog 4 #[v] w0 fun r w' => r = .bool true ∧ Below w0.heap.size w0 w' := by
  have hL := Sep.start Tryd.prog w0
  have hB := Nat.le_refl w0.heap.size
  have hle := hs.le
  have hn := nameIs 3 (by decide)
  have hnm := hn.1.2
  have h8 : (vhd 3).length = 8 := vhd_len 3
  obtain ⟨a, c, rfl⟩ := hs.shape
  have elem : ∀ {L : List Res} {w' : World}, Sep Tryd.prog w0.heap.size w0 w' L → ∀ k (hk : k < ns.length), ∃ b o, a = some ⟨b, o, none⟩ ∧ Row w' b o (ns.flatMap inC) := fun h k hk => (hs.below h.below).addr (by omega)
  refine Fn.mk Tryd.func4 rfl (by kernel_rfl) Tryd.ntmps4 rfl (by rw [Tryd.results4]) ?_
  repeat (first | (refine RunH ?_; intro w hL hB; try clear w) | (refine Both.mk ?_ ?_ <;> conv => whnf) | fail)
  refine V.loop (α := Nat) (fun k => [(0, .slice a ns.length c), (3, .int .i64 (sumI ns k : Int)), (4, .int .i64 (k : Int))])
    (fun k w' => k ≤ ns.length ∧ sumI ns k ≤ 140737488400000 ∧ Sep Tryd.prog w0.heap.size w0 w' []) (fun k => ns.length - k) 0 ⟨rfl, rfl, rfl, trivial⟩ ⟨by omega, by simp [sumI], hL⟩ ?_
  clear hL hB
  rintro k w ⟨hk, hsum, hL⟩
  have hB := hL.below.size
  dsimp only at *
  by_cases hgo : k < ns.length ∧ sumI ns k ≤ 20000
  · obtain ⟨hlt, hsm⟩ := hgo
    have hm := hns _ (List.getElem_mem hlt)
    have hml := hm.len
    obtain ⟨bb, o, rfl, hrow⟩ := elem hL k hlt
    have hsu := sumI_succ hlt
    have hx : ns[k]? = some ns[k] := List.getElem?_eq_getElem hlt
    generalize hq : ns[k] = q at *
    obtain ⟨qk, qc, qd, qv, ql⟩ := q
    dsimp only at hml hsu
    have hsl := hm.sl
    dsimp only at hsl
    obtain ⟨pa, pc, rfl⟩ := hsl.shape
    rw [bv_length] at *
    repeat (first | (refine RunH ?_; intro w hL hB; try clear w) | (refine Both.mk ?_ ?_ <;> conv => whnf) | fail)
    intro o1 ho1
    conv => whnf
    repeat (first | (refine RunH ?_; intro w hL hB; try clear w) | (refine Both.mk ?_ ?_ <;> conv => whnf) | fail)
    refine Ld.rowF ttOk (f := inC) inC_len 3 hrow (ss := ns) (k := k) tl23 rfl hx rfl (by omega) ?_
    conv => whnf
    repeat (first | (refine RunH ?_; intro w hL hB; try clear w) | (refine Both.mk ?_ ?_ <;> conv => whnf) | fail)
    exact ⟨k + 1, ⟨rfl, vint (by rw [hsu]; push_cast; omega), vint (by push_cast; omega), trivial⟩, ⟨by omega, by omega, hL⟩, (by first | omega | (dsimp only; omega))⟩
  by_cases hbig : 20000 < sumI ns k
  · by_cases hlt : k < ns.length
    · have h20 : ¬ sumI ns k ≤ 20000 := fun h => hgo ⟨hlt, h⟩
      repeat (first | (refine RunH ?_; intro w hL hB; try clear w) | (refine Both.mk ?_ ?_ <;> conv => whnf) | fail)
      exact ⟨rfl, hL.below⟩
    · repeat (first | (refine RunH ?_; intro w hL hB; try clear w) | (refine Both.mk ?_ ?_ <;> conv => whnf) | fail)
      exact ⟨rfl, hL.below⟩
  have hke : k = ns.length := by
    rcases Nat.lt_or_ge k ns.length with h | h
    · exact absurd ⟨h, by omega⟩ hgo
    · omega
  subst hke
  have hN := sumI_le ns ns.length 0 (by omega) (Nat.le_refl _)
  simp only [sumI, List.take_zero, List.map_nil, List.sum_nil] at hN
  replace hN : 40 * ns.length ≤ sumI ns ns.length := by simpa [sumI] using hN
  repeat (first | (refine RunH ?_; intro w hL hB; try clear w) | (refine Both.mk ?_ ?_ <;> conv => whnf) | fail)
  refine (new_fn 1048576 hL hB).mono fun r w hr => ?_
  obtain ⟨d, rfl, hD⟩ := hr.1 (by decide)
  clear hr hL hB
  obtain ⟨dL, hL, hB, close⟩ := hD.open
  clear hD
  conv => whnf
  repeat (first | (refine RunH ?_; intro w hL hB; try clear w) | (refine Both.mk ?_ ?_ <;> conv => whnf) | fail)
  refine (create_fn hn (close (F' := []) hL hB)).mono fun r w ⟨_, _, hr⟩ => ?_
  obtain ⟨vv, m, rfl, hD⟩ := hr rfl (one_create hnm (by decide) (id := 3)).1
  rw [(one_create hnm (by decide)).2] at hD
  clear hr hL hB close
  obtain ⟨dL, hL, hB, close⟩ := hD.open
  clear hD
  conv => whnf
  repeat (first | (refine RunH ?_; intro w hL hB; try clear w) | (refine Both.mk ?_ ?_ <;> conv => whnf) | fail)
  replace hD := close (F' := [_, _]) hL hB
  clear hL hB close
  refine V.loop (α := Nat × List Nd) (fun z => [(0, .slice a ns.length c), (5, ptr d), (7, ptr vv), (9, .int .i64 (z.1 : Int))])
    (fun z w' => z.1 ≤ ns.length ∧ (∀ r ∈ z.2, OkRec r) ∧ z.2.length ≤ z.1 ∧ lenR z.2 ≤ sumI ns z.1 ∧ DkS w0.heap.size w0 w' d (1048576 : Int).toNat (oneS (vnm 3) (vhd 3 ++ flat z.2)) [.blk vv (volC d 3 (vnm 3) m) 63, .mp 32 m ((foldP 8 [] z.2).map pcE)]) (fun z => ns.length - z.1) (0, []) ⟨rfl, rfl, rfl, rfl, trivial⟩ ⟨by dsimp only; omega, by simp, Nat.le_refl _, by simp [lenR], by simpa [flat, foldP] using hD⟩ ?_
  clear hD hk hgo
  rintro ⟨k, Rs⟩ w ⟨hk, hok, hRl, hlR, hD⟩
  dsimp only at hk hok hRl hlR hD ⊢
  by_cases hlt : k < ns.length
  · obtain ⟨dL, hL, hB, close⟩ := hD.open
    clear hD
    have hm := hns _ (List.getElem_mem hlt)
    obtain ⟨bb, o, rfl, hrow⟩ := elem hL k hlt
    have hsu := sumI_succ hlt
    have hsn := sumI_le ns ns.length (k + 1) (by omega) (Nat.le_refl _)
    have hx : ns[k]? = some ns[k] := List.getElem?_eq_getElem hlt
    generalize hq : ns[k] = q at *
    obtain ⟨qk, qc, qd, qv, ql⟩ := q
    obtain ⟨mk, mc, msl, mln⟩ := hm
    dsimp only at hsu mk mc msl mln
    repeat (first | (refine RunH ?_; intro w hL hB; try clear w) | (refine Both.mk ?_ ?_ <;> conv => whnf) | fail)
    intro o1 ho1
    conv => whnf
    refine Ld.rowN ttOk (f := inC) inC_len hrow (ss := ns) (k := k) tl35 rfl rfl hx (by omega) ?_
    conv => whnf
    repeat (first | (refine RunH ?_; intro w hL hB; try clear w) | (refine Both.mk ?_ ?_ <;> conv => whnf) | fail)
    have hfl : (vhd 3 ++ flat Rs).length = 8 + lenR Rs := by rw [List.length_append, h8, flatR_len]
    have hndf : NdP (foldP 8 [] Rs) := foldP_nd Rs 8 [] NdP.nil
    refine (vput_fn hn qk qc qd _ ql mk mc hndf (fun w' h => h.sl msl rfl) (close (F' := [_, _]) hL hB)).mono fun r w ⟨hr, hD⟩ => ?_
    clear hL hB close
    by_cases hbad : encNE qd ql.length ≠ 0 ∨ vputB (foldP 8 [] Rs) qk qd ≠ 0
    · have hb := put_bad (room := (1048576 : Int).toNat) (S := oneS (vnm 3) (vhd 3 ++ flat Rs)) (nm := vnm 3) (cook := qc) (xs := ql) hbad
      rw [hb.2.1, hb.2.2] at hD
      obtain ⟨dL, hL, hB, close⟩ := hD.open
      clear hD
      subst hr
      conv => whnf
      repeat (first | (refine RunH ?_; intro w hL hB; try clear w) | (refine Both.mk ?_ ?_ <;> conv => whnf) | fail)
      exact ⟨(k + 1, Rs), ⟨rfl, rfl, rfl, vint (by push_cast; omega), trivial⟩, ⟨by dsimp only; omega, hok, by dsimp only; omega, by dsimp only; omega, close (F' := [_, _]) hL hB⟩, (by first | omega | (dsimp only; omega))⟩
    · have hE : encNE qd ql.length = 0 := Decidable.byContradiction fun h => hbad (.inl h)
      have hV : vputB (foldP 8 [] Rs) qk qd = 0 := Decidable.byContradiction fun h => hbad (.inr h)
      have hszr := szR_le ⟨qk, qc, qd, ql⟩
      dsimp only at hszr
      have hput := one_put (room := (1048576 : Int).toNat) (nm := vnm 3) (d := vhd 3 ++ flat Rs) (xs := ql) (ps := foldP 8 [] Rs) (key := qk) (cook := qc) (dead := qd) hnm hE hV (by rw [hfl]; show _ + szR ⟨qk, qc, qd, ql⟩ ≤ _; omega) (by rw [hfl]; show _ + szR ⟨qk, qc, qd, ql⟩ ≤ 1048576; omega)
      rw [hfl] at hput
      rw [hput.2.1, hput.2.2] at hD
      have hD' : DkS w0.heap.size w0 w d (1048576 : Int).toNat (oneS (vnm 3) (vhd 3 ++ flat (Rs ++ [(⟨qk, qc, qd, ql⟩ : Nd)]))) [.blk vv (volC d 3 (vnm 3) m) 63, .mp 32 m ((foldP 8 [] (Rs ++ [(⟨qk, qc, qd, ql⟩ : Nd)])).map pcE)] := by
        rw [flat_app, foldP_snoc, ← List.append_assoc]
        simpa [flat, encR, placeOf, szR] using hD
      clear hD
      obtain ⟨dL, hL, hB, close⟩ := hD'.open
      subst hr
      conv => whnf
      repeat (first | (refine RunH ?_; intro w hL hB; try clear w) | (refine Both.mk ?_ ?_ <;> conv => whnf) | fail)
      refine ⟨(k + 1, Rs ++ [(⟨qk, qc, qd, ql⟩ : Nd)]), ⟨rfl, rfl, rfl, vint (by push_cast; omega), trivial⟩, ⟨by dsimp only; omega, fun r hr => ?_, by simp; omega, ?_, close (F' := [_, _]) hL hB⟩, (by first | omega | (dsimp only; omega))⟩
      · rcases List.mem_append.1 hr with hr | hr
        · exact hok r hr
        · simp only [List.mem_singleton] at hr
          subst hr
          exact ⟨mk, mc, hE⟩
      · dsimp only
        rw [lenR_app]
        simp only [lenR, List.map_cons, List.map_nil, List.sum_cons, List.sum_nil] at *
        omega
  obtain rfl : k = ns.length := by omega
  obtain ⟨dL, hL, hB, close⟩ := hD.open
  clear hD
  repeat (first | (refine RunH ?_; intro w hL hB; try clear w) | (refine Both.mk ?_ ?_ <;> conv => whnf) | fail)
  refine (vopen_fn hn (close (F' := [_, _]) hL hB)).mono fun r w ⟨_, hr2⟩ => ?_
  obtain ⟨v2, m2, ps, o3, hsc, hnd2, hop, rfl, hD⟩ := hr2 (by
    rw [openE, one_get]
    dsimp only
    rw [if_pos]
    exact ⟨by simp [h8], List.take_left' h8⟩)
  clear hL hB close hr2
  rw [one_dat, ← h8] at hsc
  obtain ⟨hps, rfl⟩ := scan_clean Rs hok hsc
  rw [h8] at hps
  rw [← hps] at hD
  simp only [cutAt] at hD
  have hpl : ps.length ≤ 500 := by
    have := foldP_len Rs 8 []
    rw [← hps] at this
    simp only [List.length_nil] at this
    omega
  have hsm : sumN ps ≤ 2147483648 := by
    have := sumN_le (ps := ps) (c := 65571) fun p hp => (hop p hp).2.2.2.2
    omega
  generalize oneS (vnm 3) (vhd 3 ++ flat Rs) = S at hD
  clear hps hsc
  obtain ⟨dL, hL, hB, close⟩ := hD.open
  clear hD
  conv => whnf
  repeat (first | (refine RunH ?_; intro w hL hB; try clear w) | (refine Both.mk ?_ ?_ <;> conv => whnf) | fail)
  replace hL := hL.perm (swap22 _ _ _ _ _)
  refine (vplaces_fn hnd2 hop (by omega) (close (F' := [_, _, _, _]) hL hB)).mono fun r w hD => ?_
  clear hL hB close
  obtain ⟨dL, hL, hB, close⟩ := hD.open
  clear hD
  have hpn := plsOf_len ps
  obtain ⟨p1, q1, rfl⟩ := (show SlN w 5 r ps.length _ from hL.rowN (i := 0) rfl).shape
  replace hL := hL.perm (swap32 _ _ _ _ _ _)
  conv => whnf
  repeat (first | (refine RunH ?_; intro w hL hB; try clear w) | (refine Both.mk ?_ ?_ <;> conv => whnf) | fail)
  refine (vplaces_fn hnd2 hop (by omega) (close (F' := [_, _, _, _, _]) hL hB)).mono fun r w hD => ?_
  clear hL hB close
  obtain ⟨dL, hL, hB, close⟩ := hD.open
  clear hD
  obtain ⟨p2, q2, rfl⟩ := (show SlN w 5 r ps.length _ from hL.rowN (i := 0) rfl).shape
  conv => whnf
  repeat (first | (refine RunH ?_; intro w hL hB; try clear w) | (refine Both.mk ?_ ?_ <;> conv => whnf) | fail)
  refine (placesSame_fn _ _ (plsOf ps) _ (plsOf_ok hop) (by rw [hpn]; exact hL.rowN (i := 3) rfl) (by rw [hpn]; exact hL.rowN (i := 0) rfl)).mono fun r w ⟨hr, hw⟩ => ?_
  subst hr
  replace hL := hL.call hB (Turns.of_below hw)
  replace hB := Nat.le_trans hB hw.size
  replace hL := (hL.sub (.cons _ (.cons_cons _ (.cons_cons _ (.cons _ (.refl _)))))).perm (swap22 _ _ _ _ _)
  conv => whnf
  repeat (first | (refine RunH ?_; intro w hL hB; try clear w) | (refine Both.mk ?_ ?_ <;> conv => whnf) | fail)
  refine (vsize_fn (by omega) (close (F' := [_, _, _, _]) hL hB)).mono fun r w ⟨hr, hD⟩ => ?_
  subst hr
  clear hL hB close
  obtain ⟨dL, hL, hB, close⟩ := hD.open
  clear hD
  replace hL := hL.perm (swap22 _ _ _ _ _)
  conv => whnf
  repeat (first | (refine RunH ?_; intro w hL hB; try clear w) | (refine Both.mk ?_ ?_ <;> conv => whnf) | fail)
  refine (vsize_fn (by omega) (close (F' := [_, _, _, _]) hL hB)).mono fun r w ⟨hr, hD⟩ => ?_
  subst hr
  clear hL hB close
  obtain ⟨dL, hL, hB, close⟩ := hD.open
  clear hD
  replace hL := hL.perm (swap22 _ _ _ _ _)
  conv => whnf
  repeat (first | (refine RunH ?_; intro w hL hB; try clear w) | (refine Both.mk ?_ ?_ <;> conv => whnf) | fail)
  refine (vdirt_fn (by omega) hnd2 hsm (close (F' := [_, _, _, _]) hL hB)).mono fun r w ⟨hr, hD⟩ => ?_
  subst hr
  clear hL hB close
  obtain ⟨dL, hL, hB, close⟩ := hD.open
  clear hD
  replace hL := hL.perm (swap22 _ _ _ _ _)
  conv => whnf
  repeat (first | (refine RunH ?_; intro w hL hB; try clear w) | (refine Both.mk ?_ ?_ <;> conv => whnf) | fail)
  refine (vdirt_fn (by omega) hnd2 hsm (close (F' := [_, _, _, _]) hL hB)).mono fun r w ⟨hr, hD⟩ => ?_
  subst hr
  clear hL hB close
  obtain ⟨dL, hL, hB, close⟩ := hD.open
  conv => whnf
  repeat (first | (refine RunH ?_; intro w hL hB; try clear w) | (refine Both.mk ?_ ?_ <;> conv => whnf) | fail)
  refine V.loop (α := Nat) (fun k => [(0, .slice a ns.length c), (7, ptr vv), (10, ptr v2), (12, .int .i64 (k : Int))])
    (fun k w' => k ≤ ns.length ∧ DkS w0.heap.size w0 w' d (1048576 : Int).toNat S [.blk v2 (volC d 3 (vnm 3) m2) 63, .mp 32 m2 (ps.map pcE), .blk vv (volC d 3 (vnm 3) m) 63, .mp 32 m (ps.map pcE)]) (fun k => ns.length - k) 0 ⟨rfl, rfl, rfl, rfl, trivial⟩ ⟨by omega, close (F' := [_, _, _, _]) hL hB⟩ ?_
  clear hD hL hB close
  rintro k w ⟨hk, hD⟩
  obtain ⟨dL, hL, hB, close⟩ := hD.open
  by_cases hlt : k < ns.length
  · have hm := hns _ (List.getElem_mem hlt)
    obtain ⟨bb, o, rfl, hrow⟩ := elem hL k hlt
    have hx : ns[k]? = some ns[k] := List.getElem?_eq_getElem hlt
    generalize hq : ns[k] = q at *
    obtain ⟨qk, qc, qd, qv, ql⟩ := q
    obtain ⟨mk, mc, msl, mln⟩ := hm
    dsimp only at mk mc msl mln
    have rowC : ∀ x, Sep Tryd.prog w0.heap.size w0 x [] → Row x bb o (ns.flatMap inC) := fun x hx' => by
      obtain ⟨_, _, he, hr⟩ := elem hx' k hlt
      cases he
      exact hr
    replace hL := hL.perm (swap22 _ _ _ _ _)
    repeat (first | (refine RunK ?_; intro w hL hB; try clear w) | (refine V.tree ttOk (fun x0 => Sep Tryd.prog _ w0 x0 []) (.q 0 (.q 1 (.q 2 (.q 3 (.q 4 (.q 5 (.q 6 (.q 7 (.q 8 (.q 9 (.q 10 (.alt 11 (.q 12 (.q 13 (.q 14 (.q 15 (.q 16 .nil))))) .stop)))))))))))) mixed (by decide +kernel) (hL.drew.sub (List.nil_sublist _)) ?_; replace hL := hL.drew; conv => whnf) | (refine V.tailA ttOk mixed (by decide +kernel) ?_; replace hL := hL.drew; conv => whnf) | (refine Both.mk ?_ ?_ <;> conv => whnf) | fail)
    intro o1 ho1
    conv => whnf
    repeat (first | (refine RunH ?_; intro w hL hB; try clear w) | (refine Both.mk ?_ ?_ <;> conv => whnf) | fail)
    refine Lq.of_class (fun x hx' => Ld.rowF ttOk (f := inC) inC_len 0 (rowC x hx') (ss := ns) (o := o) (o' := o1 + 0) (k := k) tl32 rfl hx rfl (by omega) rfl) ?_
    conv => whnf
    repeat (first | (refine RunH ?_; intro w hL hB; try clear w) | (refine Both.mk ?_ ?_ <;> conv => whnf) | fail)
    intro o2 ho2
    conv => whnf
    repeat (first | (refine RunH ?_; intro w hL hB; try clear w) | (refine Both.mk ?_ ?_ <;> conv => whnf) | fail)
    refine Lq.of_class (fun x hx' => Ld.rowF ttOk (f := inC) inC_len 1 (rowC x hx') (ss := ns) (o := o) (o' := o2 + 1) (k := k) tl33 rfl hx rfl (by omega) rfl) ?_
    conv => whnf
    repeat (first | (refine RunH ?_; intro w hL hB; try clear w) | (refine Both.mk ?_ ?_ <;> conv => whnf) | fail)
    refine (vget_fn hn qk qc mk hnd2 hop (close (F' := [_, _, _, _]) hL hB)).mono fun r w hP => ?_
    clear hL hB close hD
    rw [vgetPost] at hP
    by_cases hE : vgetE S (vnm 3) ps qk qc = 0
    · rw [if_pos hE] at hP
      obtain ⟨u, rfl, hD⟩ := hP
      generalize hdd : vgetD S (vnm 3) ps qk = D at hD
      obtain ⟨dL, hL, hB, close⟩ := hD.open
      clear hD
      obtain ⟨ua, uc, rfl⟩ := (show SlN w 1 u _ _ from hL.rowN (i := 0) rfl).shape
      replace hL := hL.perm (swap32 _ _ _ _ _ _)
      conv => whnf
      refine ⟨hL.sub (List.nil_sublist _), ?_⟩
      conv => whnf
      repeat (first | (refine RunK ?_; intro w hL hB; try clear w) | (refine V.tree ttOk (fun x0 => Sep Tryd.prog _ w0 x0 []) (.q 0 (.q 1 (.q 2 (.q 3 (.q 4 (.q 5 (.q 6 (.q 7 (.q 8 (.q 9 (.q 10 (.alt 11 (.q 12 (.q 13 (.q 14 (.q 15 (.q 16 .nil))))) .stop)))))))))))) mixed (by decide +kernel) (hL.drew.sub (List.nil_sublist _)) ?_; replace hL := hL.drew; conv => whnf) | (refine V.tailA ttOk mixed (by decide +kernel) ?_; replace hL := hL.drew; conv => whnf) | (refine Both.mk ?_ ?_ <;> conv => whnf) | fail)
      intro o3 ho3
      conv => whnf
      repeat (first | (refine RunH ?_; intro w hL hB; try clear w) | (refine Both.mk ?_ ?_ <;> conv => whnf) | fail)
      refine Lq.of_class (fun x hx' => Ld.rowF ttOk (f := inC) inC_len 0 (rowC x hx') (ss := ns) (o := o) (o' := o3 + 0) (k := k) tl32 rfl hx rfl (by omega) rfl) ?_
      conv => whnf
      repeat (first | (refine RunH ?_; intro w hL hB; try clear w) | (refine Both.mk ?_ ?_ <;> conv => whnf) | fail)
      intro o4 ho4
      conv => whnf
      repeat (first | (refine RunH ?_; intro w hL hB; try clear w) | (refine Both.mk ?_ ?_ <;> conv => whnf) | fail)
      refine Lq.of_class (fun x hx' => Ld.rowF ttOk (f := inC) inC_len 1 (rowC x hx') (ss := ns) (o := o) (o' := o4 + 1) (k := k) tl33 rfl hx rfl (by omega) rfl) ?_
      conv => whnf
      repeat (first | (refine RunH ?_; intro w hL hB; try clear w) | (refine Both.mk ?_ ?_ <;> conv => whnf) | fail)
      refine (vget_fn hn qk qc mk hnd2 hop (close (F' := [_, _, _, _, _]) hL hB)).mono fun r w hP => ?_
      clear hL hB close
      rw [vgetPost, if_pos hE, hdd] at hP
      obtain ⟨u2, rfl, hD⟩ := hP
      obtain ⟨dL, hL, hB, close⟩ := hD.open
      clear hD
      obtain ⟨ua2, uc2, rfl⟩ := (show SlN w 1 u2 _ _ from hL.rowN (i := 0) rfl).shape
      conv => whnf
      refine ⟨hL.sub (List.nil_sublist _), ?_⟩
      conv => whnf
      repeat (first | (refine RunH ?_; intro w hL hB; try clear w) | (refine Both.mk ?_ ?_ <;> conv => whnf) | fail)
      refine (same_fn _ _ D D _ (hL.row (i := 3) rfl) (hL.row (i := 0) rfl)).mono fun r w ⟨hr, hw⟩ => ?_
      subst hr
      replace hL := hL.call hB (Turns.of_below hw)
      replace hB := Nat.le_trans hB hw.size
      rw [decide_eq_true rfl]
      conv => whnf
      repeat (first | (refine RunH ?_; intro w hL hB; try clear w) | (refine Both.mk ?_ ?_ <;> conv => whnf) | fail)
      exact ⟨k + 1, ⟨rfl, rfl, rfl, vint (by push_cast; omega), trivial⟩, ⟨by omega, close (F' := [_, _, _, _]) (hL.sub (.cons _ (.cons_cons _ (.cons_cons _ (.cons _ (.refl _)))))) hB⟩, (by first | omega | (dsimp only; omega))⟩
    · rw [if_neg hE] at hP
      obtain ⟨rfl, hD⟩ := hP
      obtain ⟨dL, hL, hB, close⟩ := hD.open
      clear hD
      replace hL := hL.perm (swap22 _ _ _ _ _)
      conv => whnf
      refine ⟨hL.sub (List.nil_sublist _), ?_⟩
      conv => whnf
      repeat (first | (refine RunK ?_; intro w hL hB; try clear w) | (refine V.tree ttOk (fun x0 => Sep Tryd.prog _ w0 x0 []) (.q 0 (.q 1 (.q 2 (.q 3 (.q 4 (.q 5 (.q 6 (.q 7 (.q 8 (.q 9 (.q 10 (.alt 11 (.q 12 (.q 13 (.q 14 (.q 15 (.q 16 .nil))))) .stop)))))))))))) mixed (by decide +kernel) (hL.drew.sub (List.nil_sublist _)) ?_; replace hL := hL.drew; conv => whnf) | (refine V.tailA ttOk mixed (by decide +kernel) ?_; replace hL := hL.drew; conv => whnf) | (refine Both.mk ?_ ?_ <;> conv => whnf) | fail)
      intro o3 ho3
      conv => whnf
      repeat (first | (refine RunH ?_; intro w hL hB; try clear w) | (refine Both.mk ?_ ?_ <;> conv => whnf) | fail)
      refine Lq.of_class (fun x hx' => Ld.rowF ttOk (f := inC) inC_len 0 (rowC x hx') (ss := ns) (o := o) (o' := o3 + 0) (k := k) tl32 rfl hx rfl (by omega) rfl) ?_
      conv => whnf
      repeat (first | (refine RunH ?_; intro w hL hB; try clear w) | (refine Both.mk ?_ ?_ <;> conv => whnf) | fail)
      intro o4 ho4
      conv => whnf
      repeat (first | (refine RunH ?_; intro w hL hB; try clear w) | (refine Both.mk ?_ ?_ <;> conv => whnf) | fail)
      refine Lq.of_class (fun x hx' => Ld.rowF ttOk (f := inC) inC_len 1 (rowC x hx') (ss := ns) (o := o) (o' := o4 + 1) (k := k) tl33 rfl hx rfl (by omega) rfl) ?_
      conv => whnf
      repeat (first | (refine RunH ?_; intro w hL hB; try clear w) | (refine Both.mk ?_ ?_ <;> conv => whnf) | fail)
      refine (vget_fn hn qk qc mk hnd2 hop (close (F' := [_, _, _, _]) hL hB)).mono fun r w hP => ?_
      clear hL hB close
      rw [vgetPost, if_neg hE] at hP
      obtain ⟨rfl, hD⟩ := hP
      obtain ⟨dL, hL, hB, close⟩ := hD.open
      clear hD
      conv => whnf
      refine ⟨hL.sub (List.nil_sublist _), ?_⟩
      conv => whnf
      repeat (first | (refine RunH ?_; intro w hL hB; try clear w) | (refine Both.mk ?_ ?_ <;> conv => whnf) | fail)
      refine (same_fn _ _ [] [] _ (Sl.nil _) (Sl.nil _)).mono fun r w ⟨hr, hw⟩ => ?_
      subst hr
      replace hL := hL.call hB (Turns.of_below hw)
      replace hB := Nat.le_trans hB hw.size
      rw [decide_eq_true rfl]
      conv => whnf
      repeat (first | (refine RunH ?_; intro w hL hB; try clear w) | (refine Both.mk ?_ ?_ <;> conv => whnf) | fail)
      exact ⟨k + 1, ⟨rfl, rfl, rfl, vint (by push_cast; omega), trivial⟩, ⟨by omega, close (F' := [_, _, _, _]) hL hB⟩, (by first | omega | (dsimp only; omega))⟩
  · obtain rfl : k = ns.length := by omega
    repeat (first | (refine RunH ?_; intro w hL hB; try clear w) | (refine Both.mk ?_ ?_ <;> conv => whnf) | (refine (knownV_fn _).mono fun r w hr => ?_; obtain ⟨hr, hw⟩ := hr; subst hr; replace hL := hL.call hB (Turns.of_below hw); replace hB := Nat.le_trans hB hw.size; conv => whnf) | fail)
    exact ⟨rfl, hL.below⟩
end Go.Proofs.YtpkealgeigpjpaaDoor
