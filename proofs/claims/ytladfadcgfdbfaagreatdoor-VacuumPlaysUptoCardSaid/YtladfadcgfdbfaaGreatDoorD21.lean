/- volume: Get. volume: Open. Nothing is claimed here. -/
import Derived.Test.YtladfadcgfdbfaaGreatDoorD20
namespace Go.Proofs.YtladfadcgfdbfaaGreatDoor
open Go.RowKit
open Go.Maps (Keyed)
set_option linter.unusedVariables false
set_option linter.unusedSimpArgs false
set_option maxRecDepth 100000
def datS (S : List Fl) (nm : ByteArray) : List UInt8 := match getS S nm with
  | some f => f.d
  | none => []
theorem datS_len (S : List Fl) (nm : ByteArray) : (datS S nm).length = szS S nm := by unfold datS szS; cases getS S nm <;> rfl
/-- records of this size alone -/
def OkP (ps : List Pc) : Prop := ∀ p ∈ ps, p.key < 18446744073709551616 ∧ p.cook < 4294967296 ∧ p.at_ ≤ 1073741824 ∧ 28 ≤ p.n ∧ p.n ≤ 65571
section
variable {B d v m room id : Nat} {nm : ByteArray} {S : List Fl} {ps : List Pc} {F : List Res} {w0 w : World}
end
end Go.Proofs.YtladfadcgfdbfaaGreatDoor
namespace Go.Proofs.YtladfadcgfdbfaaGreatDoor
open Go.RowKit
open Go.Maps (Keyed)
set_option linter.unusedVariables false
set_option linter.unusedSimpArgs false
set_option maxRecDepth 100000
theorem bv_inj {a b : List UInt8} (h : bv a = bv b) : a = b := by
  induction a generalizing b with
  | nil => cases b <;> simp_all [bv]
  | cons x a ih =>
    cases b with
    | nil => simp [bv] at h
    | cons y b =>
      simp only [bv, List.map_cons, List.cons.injEq, u8, Value.int.injEq, true_and] at h
      obtain ⟨h1, h2⟩ := h
      have : x = y := UInt8.toNat_inj.1 (by omega)
      rw [this, ih h2]
theorem a8Keyed : WideMaps.KeyLaw Tryz.prog 101 := deep_law_gate (by kernel_rfl) (of_decide_eq_true (by kernel_rfl)) (of_decide_eq_true (by kernel_rfl)) (by kernel_rfl) (by kernel_rfl)
theorem a8Key : Tryz.prog.keyType 101 = true := by kernel_rfl
theorem a8Small : 1 ≤ Tryz.prog.types.size ∧ Tryz.prog.types.size + 1 ≤ 10000 := of_decide_eq_true (by kernel_rfl)
theorem Eg.a8 {a b : List UInt8} {K : Bool → Prop} (ha : a.length = 8) (hb : b.length = 8) (h : K (decide (a = b))) : Eg Tryz.prog 101 (bv a).toArray (bv b).toArray K := by
  refine Eg.key a8Keyed a8Small.2 a8Key (by kernel_rfl) (by kernel_rfl) (good_arr8 ttOk tl101 tl5 rfl a8Key a8Small.1 a ha) (good_arr8 ttOk tl101 tl5 rfl a8Key a8Small.1 b hb) fun r hr => ?_
  have e : (Value.agg (bv a).toArray = Value.agg (bv b).toArray) ↔ a = b := ⟨fun e => bv_inj (by simpa using e), fun e => by rw [e]⟩
  have : r = decide (a = b) := by
    cases r
    · simp only [Bool.false_eq_true, false_iff] at hr
      exact (decide_eq_false fun e' => hr (e.2 e')).symm
    · simp only [true_iff] at hr
      exact (decide_eq_true (e.1 hr)).symm
  rw [this]; exact h
/-- a file is gone through from a place on -/
inductive Scan (b : List UInt8) : Nat → List Pc → List Pc → Option Nat → Prop
  | over (at_ : Nat) (ps : List Pc) (h : b.length ≤ at_) : Scan b at_ ps ps none
  | cut (at_ : Nat) (ps : List Pc) (h : at_ < b.length) (hE : dE (b.drop at_) = 2 ∨ dE (b.drop at_) = 3) : Scan b at_ ps ps (some at_)
  | step (at_ : Nat) (ps ps' : List Pc) (o : Option Nat) (h : at_ < b.length) (hE : dE (b.drop at_) = 4 ∨ dE (b.drop at_) = 0)
      (hs : Scan b (at_ + szN (dSize (b.drop at_))) (layP ps ⟨dKey (b.drop at_), at_, szN (dSize (b.drop at_)), dCook (b.drop at_), dDead (b.drop at_)⟩) ps' o) : Scan b at_ ps ps' o
theorem dSize_le {b : List UInt8} (h : dE b = 4 ∨ dE b = 0) : dSize b ≤ 65536 ∧ szN (dSize b) ≤ b.length := by
  rw [dE] at h
  split at h
  · omega
  · split at h
    · omega
    · rename_i hf
      split at h
      · omega
      · rw [dForm] at hf
        exact ⟨by have : ¬ 65536 < dSize b := fun h => hf (.inl h)
                  omega, by omega⟩
theorem layP_ok {ps : List Pc} {p : Pc} (h : OkP ps) (hp : p.key < 18446744073709551616 ∧ p.cook < 4294967296 ∧ p.at_ ≤ 1073741824 ∧ 28 ≤ p.n ∧ p.n ≤ 65571) : OkP (layP ps p) := by
  have hput : OkP (putP ps p) := fun q hq => by
    rcases putA_mem hq with rfl | hq
    · exact hp
    · exact h q hq
  unfold layP
  split
  · exact hput
  · split
    · exact hput
    · exact h
section
variable {B d v m room id : Nat} {nm : ByteArray} {S : List Fl} {ps : List Pc} {F : List Res} {w0 w : World}
def openE (S : List Fl) (nm : ByteArray) (id : Nat) : Nat := match getS S nm with
  | none => 7
  | some f => if 8 ≤ f.d.length ∧ f.d.take 8 = vhd id then 0 else 3
def cutAt (S : List Fl) (nm : ByteArray) (o : Option Nat) : List Fl := match o with
  | none => S
  | some k => cutS S nm (k : Int)
set_option maxHeartbeats 8000000 in
theorem vopen_fn (hn : NameIn B w0 id nm) (hD : DkS B w0 w d room S F) :
    Fn Tryz.prog 31 #[ptr d, .int .i64 (id : Int)] w fun r w' =>
      (openE S nm id ≠ 0 → r = .tuple #[.pointer none, .int .i64 (openE S nm id : Nat)] ∧ DkS B w0 w' d room S F) ∧
      (openE S nm id = 0 → ∃ v m ps o, Scan (datS S nm) 8 [] ps o ∧ NdP ps ∧ OkP ps ∧ r = .tuple #[ptr v, .int .i64 0] ∧ DkS B w0 w' d room (cutAt S nm o) (.blk v (volC d id nm m) 100 :: .mp 38 m (ps.map pcE) :: F)) := by
  have h8 := vhd_len id
  have hnn := hn.1
  have hn6 : nm.size ≤ 1000000 := by omega
  have hid := isID_fn (id : Int)
  rw [decide_eq_true (by omega)] at hid
  have hvh := vhead_fn id hnn.1
  have hszb := szS_le hD nm
  have hE : openE S nm id = match getS S nm with | none => 7 | some f => if 8 ≤ f.d.length ∧ f.d.take 8 = vhd id then 0 else 3 := rfl
  have hdl := datS_len S nm
  have hdat : datS S nm = match getS S nm with | some f => f.d | none => [] := rfl
  generalize vhd id = G at *
  generalize openE S nm id = E at *
  obtain ⟨dL, hL, hB, close⟩ := hD.open
  clear hD
  refine Fn.mk Tryz.func31 rfl (by kernel_rfl) Tryz.ntmps31 rfl (by rw [Tryz.results31]) ?_
  repeat (first | (refine RunH ?_; intro w hL hB; try clear w) | (refine Both.mk ?_ ?_ <;> conv => whnf) | fail)
  refine (hid _).mono fun r w' ⟨hr, hw⟩ => ?_
  subst hr; subst hw
  conv => whnf
  repeat (first | (refine RunH ?_; intro w hL hB; try clear w) | (refine Both.mk ?_ ?_ <;> conv => whnf) | fail)
  refine (begins_fn hn hL hB).mono fun r w ⟨v, m, hr, hL, hB⟩ => ?_
  subst hr
  rw [volC] at hL
  conv => whnf
  repeat (first | (refine RunH ?_; intro w hL hB; try clear w) | (refine Both.mk ?_ ?_ <;> conv => whnf) | fail)
  refine (read_fn nm hn6 (close (F' := _ :: _ :: F) hL hB)).mono fun r w hD => ?_
  clear close hL hB
  cases hg : getS S nm with
  | none =>
    rw [hg] at hD hE
    dsimp only at hE
    obtain ⟨hr, hD⟩ := hD
    subst hr
    obtain ⟨dL, hL, hB, close⟩ := hD.open
    conv => whnf
    repeat (first | (refine RunH ?_; intro w hL hB; try clear w) | (refine Both.mk ?_ ?_ <;> conv => whnf) | fail)
    exact ⟨fun _ => ⟨by rw [hE]; rfl, close (F' := F) hL.tl.tl hB⟩, fun h => by rw [hE] at h; cases h⟩
  | some f =>
    rw [hg] at hD hE hdat
    dsimp only at hE hdat
    rw [hdat] at hdl
    rw [hdat]
    obtain ⟨u, hr, hD⟩ := hD
    subst hr
    obtain ⟨dL, hL, hB, close⟩ := hD.open
    obtain ⟨ua, uc, rfl⟩ := (show SlN w 1 u _ _ from hL.rowN (i := 0) rfl).shape
    clear hD
    have hfl : f.d.length ≤ 1073741824 := by omega
    conv => whnf
    repeat (first | (refine RunH ?_; intro w hL hB; try clear w) | (refine Both.mk ?_ ?_ <;> conv => whnf) | fail)
    (refine Nw.sep hL hB (fun t9 w hL hB ht9 => ?_); conv => whnf)
    repeat (first | (refine RunH ?_; intro w hL hB; try clear w) | (refine Both.mk ?_ ?_ <;> conv => whnf) | fail)
    intro n1 c1 z1 z2
    obtain ⟨rfl, rfl⟩ : n1 = 8 ∧ c1 = 8 := by omega
    conv => whnf
    repeat (first | (refine RunH ?_; intro w hL hB; try clear w) | (refine Both.mk ?_ ?_ <;> conv => whnf) | fail)
    refine Rv.copyB ttOk hL 0 tl40 tl5 rfl (hL.row (i := 1) rfl) (bv_one _) (by decide) hB fun w hL hB => ?_
    dsimp only [List.set] at hL
    by_cases hl8 : f.d.length < 8
    · rw [if_neg (by omega)] at hE
      conv => whnf
      repeat (first | (refine RunK ?_; intro w hL hB; try clear w) | (refine V.treeA ttOk hL (.q 0 (.q 1 (.q 2 (.q 3 (.q 4 (.q 5 (.alt 6 (.q 7 (.q 8 .nil)) .stop))))))) mixed (by decide +kernel) ?_; replace hL := hL.drew; conv => whnf) | (refine V.tailA ttOk mixed (by decide +kernel) ?_; replace hL := hL.drew; conv => whnf) | (refine Both.mk ?_ ?_ <;> conv => whnf) | fail)
      exact ⟨fun _ => ⟨by rw [hE]; rfl, close (F' := F) hL.tl.tl.tl.tl hB⟩, fun h => by rw [hE] at h; cases h⟩
    have e1 : splice [.int .u8 0, .int .u8 0, .int .u8 0, .int .u8 0, .int .u8 0, .int .u8 0, .int .u8 0, .int .u8 0] 0 ((bv f.d).take 8) = bv (f.d.take 8) := by
      rw [← bv_take, splice_eq _ _ _ (by simp; omega), List.drop_eq_nil_of_le (by simp; omega)]; simp
    have htk : (f.d.take 8).length = 8 := by simp; omega
    have hb9 : Blk w t9 (splice [.int .u8 0, .int .u8 0, .int .u8 0, .int .u8 0, .int .u8 0, .int .u8 0, .int .u8 0, .int .u8 0] 0 ((bv f.d).take 8)) 101 := hL.blk (i := 0) rfl
    rw [e1] at hb9
    replace hL := hL.saidN 0 rfl (R' := .blk t9 (bv (f.d.take 8)) 101) hb9 rfl
    dsimp only [List.set] at hL
    conv => whnf
    repeat (first | (refine RunK ?_; intro w hL hB; try clear w) | (refine V.treeA ttOk hL (.q 0 (.q 1 (.q 2 (.q 3 (.q 4 (.q 5 (.alt 6 (.q 7 (.q 8 .nil)) .stop))))))) mixed (by decide +kernel) ?_; replace hL := hL.drew; conv => whnf) | (refine V.tailA ttOk mixed (by decide +kernel) ?_; replace hL := hL.drew; conv => whnf) | (refine Both.mk ?_ ?_ <;> conv => whnf) | fail)
    refine Lq.of_class (v := .agg (bv (f.d.take 8)).toArray) (fun w hw => Ld.blkW ttOk hw 0 tl101 rfl rfl (by rw [bv_length]; exact htk) rfl) ?_
    conv => whnf
    repeat (first | (refine RunH ?_; intro w hL hB; try clear w) | (refine Both.mk ?_ ?_ <;> conv => whnf) | fail)
    refine (hvh _).mono fun r w ⟨hr, hw⟩ => ?_
    subst hr
    replace hL := hL.call hB (Turns.of_below hw)
    replace hB := Nat.le_trans hB hw.size
    conv => whnf
    refine ⟨hL, ?_⟩
    conv => whnf
    repeat (first | (refine RunH ?_; intro w hL hB; try clear w) | (refine Both.mk ?_ ?_ <;> conv => whnf) | fail)
    refine Eg.a8 htk h8 ?_
    conv => whnf
    by_cases hG : f.d.take 8 = G
    case neg =>
      rw [if_neg (fun h => hG h.2)] at hE
      repeat (first | (refine RunH ?_; intro w hL hB; try clear w) | (refine Both.mk ?_ ?_ <;> conv => whnf) | fail)
      exact ⟨fun _ => ⟨by rw [hE]; rfl, close (F' := F) hL.tl.tl.tl.tl hB⟩, fun h => by rw [hE] at h; cases h⟩
    rw [if_pos ⟨by omega, hG⟩] at hE
    repeat (first | (refine RunH ?_; intro w hL hB; try clear w) | (refine Both.mk ?_ ?_ <;> conv => whnf) | fail)
    generalize hb : f.d = b at *
    replace hL : Sep Tryz.prog B w0 w (.blk v [ptr d, .int .i64 (id : Int), .string nm, .map (some m)] 100 :: .mp 38 m (([] : List Pc).map pcE) :: .row 5 1 (.slice ua b.length uc) b.length (bv b) :: (F ++ dL)) := (hL.tl.perm (.swap _ _ _)).perm (.cons _ (.swap _ _ _))
    refine V.loop (α := Nat × List Pc) (fun z => [(0, ptr d), (6, ptr v), (7, .slice ua b.length uc), (10, .int .i64 (z.1 : Int))])
      (fun z w' => 8 ≤ z.1 ∧ z.1 ≤ b.length ∧ NdP z.2 ∧ OkP z.2 ∧ (∀ ps' o, Scan b z.1 z.2 ps' o → Scan b 8 [] ps' o) ∧ B ≤ w'.heap.size ∧
        Sep Tryz.prog B w0 w' (.blk v [ptr d, .int .i64 (id : Int), .string nm, .map (some m)] 100 :: .mp 38 m (z.2.map pcE) :: .row 5 1 (.slice ua b.length uc) b.length (bv b) :: (F ++ dL)))
      (fun z => b.length - z.1) (8, []) ⟨rfl, rfl, rfl, rfl, trivial⟩ ⟨Nat.le_refl _, by dsimp only; omega, List.nodup_nil, (fun p hp => by cases hp), (fun _ _ h => h), hB, hL⟩ ?_
    clear hL hB
    rintro ⟨k, ps⟩ w ⟨hk8, hkl, hnd, hok, hsc, hB, hL⟩
    dsimp only at hk8 hkl hnd hok hsc hL ⊢
    by_cases hlt : k < b.length
    case neg =>
      obtain rfl : k = b.length := by omega
      repeat (first | (refine RunH ?_; intro w hL hB; try clear w) | (refine Both.mk ?_ ?_ <;> conv => whnf) | fail)
      exact ⟨fun h => absurd hE h, fun _ => ⟨v, m, ps, none, hsc _ _ (.over _ _ (Nat.le_refl _)), hnd, hok, rfl, close (F' := _ :: _ :: F) (hL.sub (.cons_cons _ (.cons_cons _ (.cons _ (.refl _))))) hB⟩⟩
    obtain ⟨bb, o, rfl, _⟩ := SlN.addr (show SlN w 1 (.slice ua b.length uc) b.length _ from hL.rowN (i := 2) rfl) (by omega)
    have hcap := (show Sl w (.slice (some ⟨bb, o, none⟩) b.length uc) (bv b) from hL.row (i := 2) rfl).len
    simp only [bv_length] at hcap
    repeat (first | (refine RunH ?_; intro w hL hB; try clear w) | (refine Both.mk ?_ ?_ <;> conv => whnf) | fail)
    intro o1 n1 c1 z1 z2 z3 z4
    conv => whnf
    repeat (first | (refine RunH ?_; intro w hL hB; try clear w) | (refine Both.mk ?_ ?_ <;> conv => whnf) | fail)
    have hsl := hL.row (i := 2) rfl
    refine (decNeedle_fn _ (b.drop k) _ (by rw [bv_drop]; exact hsl.drop (k := k) (by rw [bv_length]; omega) (by omega) (by omega) (by omega))).mono fun r w ⟨hr, hw⟩ => ?_
    have hkey := dKey_lt (b.drop k)
    have hcook : dCook (b.drop k) < 4294967296 := win4_lt _ 12
    rcases hr with ⟨hE2, rfl⟩ | ⟨hE2, rfl⟩ | ⟨hE2, u, rfl, ho⟩
    · replace hL := hL.call hB (Turns.of_below hw)
      replace hB := Nat.le_trans hB hw.size
      rw [zeroN]
      have hcut := Scan.cut (b := b) k ps hlt hE2
      rcases hE2 with h2 | h2 <;> (
        rw [h2]
        conv => whnf
        (refine Nw.sep hL hB (fun t11 w hL hB ht11 => ?_); conv => whnf)
        repeat (first | (refine RunH ?_; intro w hL hB; try clear w) | (refine Both.mk ?_ ?_ <;> conv => whnf) | fail)
        replace hL := hL.tl
        refine (cut_fn nm hn6 (k : Int) (close (F' := _ :: _ :: _ :: F) hL hB)).mono fun r w ⟨hr, hD⟩ => ?_
        obtain ⟨dL2, hL2, hB2, close2⟩ := hD.open
        conv => whnf
        clear hL hB
        have hL := hL2
        have hB := hB2
        repeat (first | (refine RunH ?_; intro w hL hB; try clear w) | (refine Both.mk ?_ ?_ <;> conv => whnf) | fail)
        exact ⟨fun h => absurd hE h, fun _ => ⟨v, m, ps, some k, hsc _ _ hcut, hnd, hok, rfl, close2 (F' := _ :: _ :: F) (hL2.sub (.cons_cons _ (.cons_cons _ (.cons _ (.refl _))))) hB2⟩⟩)
    · replace hL := hL.call hB (Turns.of_below hw)
      replace hB := Nat.le_trans hB hw.size
      have hds := dSize_le (.inl hE2)
      have hsn := szN_le (dSize (b.drop k))
      have hdl2 : (b.drop k).length = b.length - k := List.length_drop
      conv => whnf
      (refine Nw.sep hL hB (fun t11 w hL hB ht11 => ?_); conv => whnf)
      repeat (first | (refine RunH ?_; intro w hL hB; try clear w) | (refine Both.mk ?_ ?_ <;> conv => whnf) | fail)
      replace hL := hL.tl
      refine (vlay_fn (id := id) (nm := nm) (d := d) ⟨dKey (b.drop k), k, szN (dSize (b.drop k)), dCook (b.drop k), dDead (b.drop k)⟩ _ hnd hkey hL hB).mono fun r w ⟨hL, hB⟩ => ?_
      rw [volC] at hL
      conv => whnf
      repeat (first | (refine RunH ?_; intro w hL hB; try clear w) | (refine Both.mk ?_ ?_ <;> conv => whnf) | fail)
      exact ⟨(k + szN (dSize (b.drop k)), layP ps ⟨dKey (b.drop k), k, szN (dSize (b.drop k)), dCook (b.drop k), dDead (b.drop k)⟩), ⟨rfl, rfl, rfl, vint (by push_cast; rfl), trivial⟩, ⟨by dsimp only; omega, by dsimp only; omega, hnd.lay _, layP_ok hok ⟨hkey, hcook, by dsimp only; omega, by dsimp only; omega, by dsimp only; omega⟩, fun ps' o h => hsc _ _ (.step _ _ _ _ hlt (.inl hE2) h), hB, hL⟩, by dsimp only; omega⟩
    · replace hL := hL.addRow hB hw ho
      replace hB := Nat.le_trans hB hw.size
      obtain ⟨xa, xc, rfl⟩ := (show SlN w 1 u _ _ from hL.rowN (i := 0) rfl).shape
      have hds := dSize_le (.inr hE2)
      have hsn := szN_le (dSize (b.drop k))
      have hdl2 : (b.drop k).length = b.length - k := List.length_drop
      conv => whnf
      (refine Nw.sep hL hB (fun t11 w hL hB ht11 => ?_); conv => whnf)
      repeat (first | (refine RunH ?_; intro w hL hB; try clear w) | (refine Both.mk ?_ ?_ <;> conv => whnf) | fail)
      replace hL := hL.tl.tl
      refine (vlay_fn (id := id) (nm := nm) (d := d) ⟨dKey (b.drop k), k, szN (dSize (b.drop k)), dCook (b.drop k), dDead (b.drop k)⟩ _ hnd hkey hL hB).mono fun r w ⟨hL, hB⟩ => ?_
      rw [volC] at hL
      conv => whnf
      repeat (first | (refine RunH ?_; intro w hL hB; try clear w) | (refine Both.mk ?_ ?_ <;> conv => whnf) | fail)
      exact ⟨(k + szN (dSize (b.drop k)), layP ps ⟨dKey (b.drop k), k, szN (dSize (b.drop k)), dCook (b.drop k), dDead (b.drop k)⟩), ⟨rfl, rfl, rfl, vint (by push_cast; rfl), trivial⟩, ⟨by dsimp only; omega, by dsimp only; omega, hnd.lay _, layP_ok hok ⟨hkey, hcook, by dsimp only; omega, by dsimp only; omega, by dsimp only; omega⟩, fun ps' o h => hsc _ _ (.step _ _ _ _ hlt (.inr hE2) h), hB, hL⟩, by dsimp only; omega⟩
end
end Go.Proofs.YtladfadcgfdbfaaGreatDoor
