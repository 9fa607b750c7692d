/- Small words of the laws that play scripts on disks: roomy, stands, spoil. VolumePlays: both disks beside one another; a pair is opened. Nothing is claimed here. -/
import Derived.Test.YtpkealgeigpjpaaGreatDoorK33
import Derived.Test.YtpkealgeigpjpaaGreatDoorK22
import Derived.Test.YtpkealgeigpjpaaGreatDoorK36
import Derived.Test.YtpkealgeigpjpaaGreatDoorK32
namespace Go.Proofs.YtpkealgeigpjpaaGreatDoor
open Go.RowKit
set_option linter.unusedVariables false
set_option linter.unusedSimpArgs false
set_option maxRecDepth 100000

/-- a row shortened -/
theorem RowC.short {w : World} {e : TypeId} {g n c k : Nat} {xs : List Value} (h : RowC w e (.slice (some ⟨g, 0, none⟩) n c) n xs) (hk : k ≤ n) : RowC w e (.slice (some ⟨g, 0, none⟩) k c) k (xs.take k) := by
  obtain ⟨hl, ho⟩ := h
  rcases ho with ⟨h, _⟩ | ⟨g', cap, cur, h, h1, h2, h3, h4, h5⟩
  · cases h
  · injection h with q1 q2 q3
    injection q1 with q1
    injection q1 with q1
    subst q1; subst q3
    exact ⟨by rw [List.length_take]; omega, .inr ⟨g, c, cur, rfl, h1, by omega, h3, h4, by rw [← h5, List.take_take, Nat.min_eq_left hk]⟩⟩
set_option maxHeartbeats 2000000 in
theorem roomy_fn {B : Nat} {w0 w : World} {F : List Res} (v : Value) (l : List UInt8) (hlen : l.length ≤ 100000) (hs : Sl w v (bv l)) (hL : Sep Tryz.prog B w0 w F) (hB : B ≤ w.heap.size) :
    Fn Tryz.prog 36 #[v] w fun r w' => ∃ g c, r = .slice (some ⟨g, 0, none⟩) (l.length + 1) c ∧ l.length + 2 ≤ c ∧ Sep Tryz.prog B w0 w' (.rc 5 r (l ++ [171]).length (bv (l ++ [171])) :: F) ∧ B ≤ w'.heap.size ∧ Below w.heap.size w w' := by
  have hS := Sep.start Tryz.prog w
  obtain ⟨va, vc, rfl⟩ := hs.shape
  rw [bv_length] at *
  have hw0 := w
  refine Fn.mk Tryz.func36 rfl (by kernel_rfl) Tryz.ntmps36 rfl (by rw [Tryz.results36]) ?_
  have hL0 := hL
  have hB0 := hB
  clear hL hB
  have hL := hS
  have hB := Nat.le_refl w.heap.size
  repeat (first | (refine RunH ?_; intro w hL hB; try clear w) | (refine Both.mk ?_ ?_ <;> conv => whnf) | fail)
  refine Rv.buildS (len := 0) (vs := []) ttOk hL tl47 tl5 rfl rfl (by intro u hu; cases hu) (by decide) (by decide) hB fun bo w hL hB => ?_
  conv => whnf
  repeat (first | (refine RunH ?_; intro w hL hB; try clear w) | (refine Both.mk ?_ ?_ <;> conv => whnf) | fail)
  refine Rv.appendS (m := l.length) (news := bv l) ttOk hL tl47 tl5 rfl (by decide) 0 rfl (by have := (hs.below hL.below).toN; rw [bv_length] at this; exact this) (bv_one _) (by simp only [maxLen]; omega) (by omega) hB fun v1 w hL hB => ?_
  dsimp only [List.set] at hL
  obtain ⟨xa, xc, rfl⟩ := (show SlN w 1 v1 _ _ from hL.rowN (i := 0) rfl).shape
  conv => whnf
  repeat (first | (refine RunH ?_; intro w hL hB; try clear w) | (refine Both.mk ?_ ?_ <;> conv => whnf) | fail)
  refine Rv.buildS (len := 1) (vs := bv [171]) ttOk hL tl47 tl5 rfl rfl bv_len1 (by decide) (by decide) hB fun bo2 w hL hB => ?_
  conv => whnf
  repeat (first | (refine RunH ?_; intro w hL hB; try clear w) | (refine Both.mk ?_ ?_ <;> conv => whnf) | fail)
  refine Rv.appendS (m := 1) (news := bv [171]) ttOk hL tl47 tl5 rfl (by decide) 1 rfl (hL.rowN (i := 0) rfl) (bv_one _) (by simp only [maxLen]; omega) (by omega) hB fun v2 w hL hB => ?_
  dsimp only [List.set] at hL
  obtain ⟨ya, yc, rfl⟩ := (show SlN w 1 v2 _ _ from hL.rowN (i := 1) rfl).shape
  conv => whnf
  repeat (first | (refine RunH ?_; intro w hL hB; try clear w) | (refine Both.mk ?_ ?_ <;> conv => whnf) | fail)
  refine Rv.buildS (len := 1) (vs := bv [171]) ttOk hL tl47 tl5 rfl rfl bv_len1 (by decide) (by decide) hB fun bo3 w hL hB => ?_
  conv => whnf
  repeat (first | (refine RunH ?_; intro w hL hB; try clear w) | (refine Both.mk ?_ ?_ <;> conv => whnf) | fail)
  refine Rv.appendS (m := 1) (news := bv [171]) ttOk hL tl47 tl5 rfl (by decide) 2 rfl (hL.rowN (i := 0) rfl) (bv_one _) (by simp only [maxLen]; omega) (by omega) hB fun v3 w hL hB => ?_
  dsimp only [List.set] at hL
  obtain ⟨g, c, rfl, hgc⟩ := own_shape0 (hL.ownR (i := 2) rfl) (by omega)
  conv => whnf
  repeat (first | (refine RunH ?_; intro w hL hB; try clear w) | (refine Both.mk ?_ ?_ <;> conv => whnf) | fail)
  intro n1 c1 q1 q2
  obtain rfl : n1 = l.length + 1 := by omega
  obtain rfl : c = c1 := by omega
  conv => whnf
  repeat (first | (refine RunH ?_; intro w hL hB; try clear w) | (refine Both.mk ?_ ?_ <;> conv => whnf) | fail)
  have hbel := hL.below
  have hown := hL.ownR (i := 2) rfl
  have e0 : (0 : Nat) + l.length + 1 + 1 = l.length + 2 := by omega
  rw [e0] at hown
  have h1 := hL0.addRow hB0 hbel hown
  have e1 : (List.flatMap cellsL [] ++ bv l ++ bv [171] ++ bv [171]).take (l.length + 1) = bv (l ++ [171]) := by
    have : List.flatMap cellsL [] ++ bv l ++ bv [171] ++ bv [171] = bv (l ++ [171]) ++ bv [171] := by simp [bv_append]
    rw [this, List.take_left' (by simp)]
  have h2 := h1.says (R' := .rc 5 (.slice (some ⟨g, 0, none⟩) (l.length + 1) c) (l.length + 1) (bv (l ++ [171]))) (by
    have := (RowC.of_own hown).short (k := l.length + 1) (by omega)
    rw [e1] at this
    exact this) rfl
  refine ⟨g, c, rfl, by omega, ?_, Nat.le_trans hB0 hbel.size, hbel⟩
  rw [show (l ++ [(171 : UInt8)]).length = l.length + 1 by simp]
  exact h2
theorem stands_fn (v1 v2 : Value) (l m : List UInt8) (w0 : World) (h1 : Sl w0 v1 (bv (l ++ [171]))) (h2 : Sl w0 v2 (bv l)) (hl : l.length ≤ 100000) :
    Fn Tryz.prog 38 #[v1, v2] w0 fun r w' => r = .bool true ∧ Below w0.heap.size w0 w' := by
  have hL := Sep.start Tryz.prog w0
  have hB := Nat.le_refl w0.heap.size
  obtain ⟨a1, c1, rfl⟩ := h1.shape
  obtain ⟨a2, c2, rfl⟩ := h2.shape
  obtain ⟨q1, q2, q3⟩ := h1.len
  simp only [bv_length, List.length_append, List.length_singleton] at *
  obtain ⟨bb, o, rfl, hrow⟩ := h1.addr (by omega)
  refine Fn.mk Tryz.func38 rfl (by kernel_rfl) Tryz.ntmps38 rfl (by rw [Tryz.results38]) ?_
  repeat (first | (refine RunH ?_; intro w hL hB; try clear w) | (refine Both.mk ?_ ?_ <;> conv => whnf) | fail)
  intro n3 c3 q4 q5
  obtain rfl : n3 = l.length := by omega
  conv => whnf
  repeat (first | (refine RunH ?_; intro w hL hB; try clear w) | (refine Both.mk ?_ ?_ <;> conv => whnf) | fail)
  refine (same_fn _ _ l l _ (by
    have := h1.take (k := l.length) (by simp) (c' := c3) (by omega) (by omega)
    rw [← bv_take, List.take_left' rfl] at this; exact this) h2).mono fun r w ⟨hr, hw⟩ => ?_
  subst hr
  rw [decide_eq_true rfl]
  replace hL := hL.call hB (Turns.of_below hw)
  replace hB := Nat.le_trans hB hw.size
  conv => whnf
  repeat (first | (refine RunH ?_; intro w hL hB; try clear w) | (refine Both.mk ?_ ?_ <;> conv => whnf) | fail)
  intro o4 ho4
  conv => whnf
  repeat (first | (refine RunH ?_; intro w hL hB; try clear w) | (refine Both.mk ?_ ?_ <;> conv => whnf) | fail)
  refine Ld.row1 ttOk (k := l.length) (h1.below hw).toN.rowOf tl5 rfl (v := u8 171) (show (bv (l ++ [171]))[l.length]? = some (u8 171) from bv_get (by simp)) (by omega) ?_
  conv => whnf
  repeat (first | (refine RunH ?_; intro w hL hB; try clear w) | (refine Both.mk ?_ ?_ <;> conv => whnf) | fail)
  exact ⟨rfl, hL.below⟩
set_option maxHeartbeats 2000000 in
theorem spoil_fn {B : Nat} {w0 w : World} {F : List Res} (v : Value) (l : List UInt8) (hlen : l.length ≤ 2147483648) (hL : Sep Tryz.prog B w0 w (.rc 5 v l.length (bv l) :: F)) (hB : B ≤ w.heap.size) :
    Fn Tryz.prog 39 #[v] w fun r w' => Sep Tryz.prog B w0 w' F ∧ B ≤ w'.heap.size := by
  obtain ⟨va, vc, rfl⟩ := RowC.shape (show RowC w 5 v l.length (bv l) from hL.at (i := 0) rfl)
  refine Fn.mk Tryz.func39 rfl (by kernel_rfl) Tryz.ntmps39 rfl (by rw [Tryz.results39]) ?_
  repeat (first | (refine RunH ?_; intro w hL hB; try clear w) | (refine Both.mk ?_ ?_ <;> conv => whnf) | fail)
  refine Rv.buildS (len := 1) (vs := bv [99]) ttOk hL tl47 tl5 rfl rfl bv_len1 (by decide) (by decide) hB fun bo w hL hB => ?_
  conv => whnf
  repeat (first | (refine RunH ?_; intro w hL hB; try clear w) | (refine Both.mk ?_ ?_ <;> conv => whnf) | fail)
  refine Rv.appendC (m := 1) (news := bv [99]) ttOk hL tl47 tl5 rfl 1 rfl (hL.rowN (i := 0) rfl) (bv_one _) (by simp only [maxLen]; omega) (by omega) hB fun v1 w hL hB => ?_
  dsimp only [List.set] at hL
  obtain ⟨xa, xc, rfl⟩ := RowC.shape (show RowC w 5 v1 (l.length + 1) _ from hL.at (i := 1) rfl)
  replace hL := hL.tl
  rw [← bv_append] at hL
  conv => whnf
  repeat (first | (refine RunH ?_; intro w hL hB; try clear w) | (refine Both.mk ?_ ?_ <;> conv => whnf) | fail)
  refine V.loop (α := Nat × List UInt8) (fun z => [(2, .slice xa (l.length + 1) xc), (3, .int .i64 (z.1 : Int))])
    (fun z w' => z.1 ≤ l.length + 1 ∧ z.2.length = l.length + 1 ∧ Sep Tryz.prog B w0 w' (.rc 5 (.slice xa (l.length + 1) xc) (l.length + 1) (bv z.2) :: F) ∧ B ≤ w'.heap.size)
    (fun z => l.length + 1 - z.1) (0, l ++ [99]) ⟨rfl, rfl, trivial⟩ ⟨by omega, by simp, hL, hB⟩ ?_
  clear hL hB
  rintro ⟨k, m⟩ w ⟨hk, hm, hL, hB⟩
  dsimp only at *
  by_cases hkl : k < l.length + 1
  case neg =>
    repeat (first | (refine RunH ?_; intro w hL hB; try clear w) | (refine Both.mk ?_ ?_ <;> conv => whnf) | fail)
    exact hB
  obtain ⟨g, rfl⟩ : ∃ g, xa = some ⟨g, 0, none⟩ := by
    rcases (show RowC w 5 _ (l.length + 1) _ from hL.at (i := 0) rfl).of with ⟨hz, h0⟩ | ⟨g, cap, cur, hz, _⟩
    · omega
    · injection hz with z1; exact ⟨g, z1⟩
  repeat (first | (refine RunH ?_; intro w hL hB; try clear w) | (refine Both.mk ?_ ?_ <;> conv => whnf) | fail)
  intro o1 ho1
  conv => whnf
  repeat (first | (refine RunH ?_; intro w hL hB; try clear w) | (refine Both.mk ?_ ?_ <;> conv => whnf) | fail)
  refine St.rowC ttOk hL (v := u8 98) tl5 rfl 0 rfl k (by omega) (by omega) rfl rfl hB fun w hL hB => ?_
  dsimp only [List.set] at hL
  conv => whnf
  repeat (first | (refine RunH ?_; intro w hL hB; try clear w) | (refine Both.mk ?_ ?_ <;> conv => whnf) | fail)
  exact ⟨(k + 1, m.set k 98), ⟨rfl, vint (by push_cast; omega), trivial⟩, ⟨by omega, by simp [hm], by dsimp only; rw [← bv_set]; exact hL, hB⟩, (by first | omega | (dsimp only; omega))⟩
end Go.Proofs.YtpkealgeigpjpaaGreatDoor
namespace Go.Proofs.YtpkealgeigpjpaaGreatDoor
open Go.RowKit Go.Lib
open Go.Maps (Keyed)
set_option linter.unusedVariables false
set_option linter.unusedSimpArgs false
set_option maxRecDepth 100000
/-- both disks, and what else there is -/
structure Btw (B : Nat) (w0 w : World) (d k room : Nat) (Sd Sk : List Fl) (F : List Res) : Prop where
  of : ∃ dD dR, Sep Tryz.prog B w0 w (F ++ (dD ++ dR)) ∧ B ≤ w.heap.size ∧
    (∀ {w' : World} {F' : List Res}, Sep Tryz.prog B w0 w' (F' ++ dD) → B ≤ w'.heap.size → DkS B w0 w' d room Sd F') ∧
    (∀ {w' : World} {F' : List Res}, Sep Tryz.prog B w0 w' (F' ++ dR) → B ≤ w'.heap.size → RkS B w0 w' k room Sk F')
section
variable {B : Nat} {w0 w : World} {d k room : Nat} {Sd Sk : List Fl} {F F' : List Res}
theorem Btw.sep (h : Btw B w0 w d k room Sd Sk F) : ∃ G, Sep Tryz.prog B w0 w (F ++ G) ∧ B ≤ w.heap.size ∧ ∀ {w' : World} {F' : List Res}, Sep Tryz.prog B w0 w' (F' ++ G) → B ≤ w'.heap.size → Btw B w0 w' d k room Sd Sk F' := by
  obtain ⟨dD, dR, hL, hB, c1, c2⟩ := h
  exact ⟨dD ++ dR, hL, hB, fun h1 h2 => ⟨⟨dD, dR, h1, h2, c1, c2⟩⟩⟩
theorem Btw.dk (h : Btw B w0 w d k room Sd Sk F) : ∃ dR, DkS B w0 w d room Sd (F ++ dR) ∧ ∀ {w' : World} {Sd' : List Fl} {F' : List Res}, DkS B w0 w' d room Sd' (F' ++ dR) → Btw B w0 w' d k room Sd' Sk F' := by
  obtain ⟨dD, dR, hL, hB, c1, c2⟩ := h
  refine ⟨dR, c1 (hL.perm ?_) hB, fun hD => ?_⟩
  · rw [List.append_assoc]; exact List.perm_append_comm.append_left F
  · obtain ⟨dL, hL, hB, cl⟩ := hD.open
    refine ⟨⟨dL, dR, hL.perm ?_, hB, cl, c2⟩⟩
    rw [List.append_assoc]; exact List.perm_append_comm.append_left _
theorem Btw.rk (h : Btw B w0 w d k room Sd Sk F) : ∃ dD, RkS B w0 w k room Sk (F ++ dD) ∧ ∀ {w' : World} {Sk' : List Fl} {F' : List Res}, RkS B w0 w' k room Sk' (F' ++ dD) → Btw B w0 w' d k room Sd Sk' F' := by
  obtain ⟨dD, dR, hL, hB, c1, c2⟩ := h
  refine ⟨dD, c2 (by rw [List.append_assoc]; exact hL) hB, fun hD => ?_⟩
  obtain ⟨dL, hL, hB, cl⟩ := hD.open
  exact ⟨⟨dD, dL, by rw [← List.append_assoc]; exact hL, hB, c1, cl⟩⟩
theorem Btw.perm (h : Btw B w0 w d k room Sd Sk F) (hp : F.Perm F') : Btw B w0 w d k room Sd Sk F' := by
  obtain ⟨G, hL, hB, cl⟩ := h.sep
  exact cl (hL.perm (hp.append_right _)) hB
theorem Btw.sub (h : Btw B w0 w d k room Sd Sk F) (hs : F'.Sublist F) : Btw B w0 w d k room Sd Sk F' := by
  obtain ⟨G, hL, hB, cl⟩ := h.sep
  exact cl (hL.sub (hs.append (.refl _))) hB
end
theorem OneN.cut {nm : ByteArray} {S : List Fl} (h : OneN nm S) (n : Int) : OneN nm (cutS S nm n) := by
  rcases h with rfl | ⟨d, la, rfl⟩
  · exact .inl rfl
  · simp only [cutS, getS, if_pos]
    split
    · exact .inr ⟨_, _, rfl⟩
    · exact .inr ⟨_, _, by simp [putS]; exact ⟨rfl, rfl⟩⟩
theorem OneN.cutAt {nm : ByteArray} {S : List Fl} (h : OneN nm S) (o : Option Nat) : OneN nm (cutAt S nm o) := by
  cases o with
  | none => exact h
  | some c => exact h.cut c
theorem OneN.rot {nm : ByteArray} {S : List Fl} (h : OneN nm S) (n : Int) (x : UInt8) : OneN nm (rotS S nm n x) := by
  rcases h with rfl | ⟨d, la, rfl⟩
  · exact .inl rfl
  · simp only [rotS, getS, if_pos]
    split
    · exact .inr ⟨_, _, rfl⟩
    · exact .inr ⟨_, _, by simp [putS]; exact ⟨rfl, rfl⟩⟩
theorem OneN.crash {nm : ByteArray} {S : List Fl} (h : OneN nm S) (n : Int) : OneN nm (crashS S n) := by
  rcases h with rfl | ⟨d, la, rfl⟩
  · exact .inl rfl
  · exact .inr ⟨_, _, rfl⟩
theorem one_szS {nm : ByteArray} {d : List UInt8} {la : Nat} : szS [⟨nm, d, la⟩] nm = d.length := by simp [szS, getS]
theorem one_datS {nm : ByteArray} {d : List UInt8} {la : Nat} : datS [⟨nm, d, la⟩] nm = d := by simp [datS, getS]
theorem cutAt_sz {nm : ByteArray} {S : List Fl} (h : OneN nm S) (o : Option Nat) (ho : endO (datS S nm).length o ≤ (datS S nm).length) : szS (cutAt S nm o) nm = endO (datS S nm).length o := by
  cases o with
  | none => rw [Go.Proofs.YtpkealgeigpjpaaGreatDoor.cutAt, endO, datS_len]
  | some c =>
    rcases h with rfl | ⟨d, la, rfl⟩
    · simp only [endO, datS, getS, List.length_nil] at ho ⊢
      simp [Go.Proofs.YtpkealgeigpjpaaGreatDoor.cutAt, cutS, getS, szS]; omega
    · rw [one_datS] at ho ⊢
      simp only [endO] at ho ⊢
      have : Go.Proofs.YtpkealgeigpjpaaGreatDoor.cutAt [⟨nm, d, la⟩] nm (some c) = [⟨nm, d.take c, min c la⟩] := by
        simp only [Go.Proofs.YtpkealgeigpjpaaGreatDoor.cutAt, cutS, getS, if_pos]
        rw [if_neg (by simp; omega)]
        simp [putS]
      rw [this, one_szS, List.length_take]; omega
/-- the volume, the reference's, and the pair -/
def prRes (p d k v m x id : Nat) (nm : ByteArray) (ps : List Pc) (ra : Option Addr) (rc : Nat) (rL : List Pc) (F : List Res) : List Res :=
  .blk v (volC d id nm m) 70 :: .mp 45 m (ps.map pcE) :: .blk p [ptr d, ptr k, ptr v, ptr x, .int .i64 (id : Int)] 36 :: rvRes x k id ra rc rL F
structure PrS (nm : ByteArray) (S : List Fl) (ps rL : List Pc) : Prop where
  one : OneN nm S
  rel : Rel ps rL
  okP : OkP ps
  okL : OkP rL
  sumP : sumN ps + 8 ≤ szS S nm
  lenL : 28 * rL.length ≤ szS S nm
structure Pr (B : Nat) (w0 w : World) (d k room id : Nat) (nm : ByteArray) (p : Nat) (S : List Fl) (F : List Res) : Prop where
  of : ∃ v m x ra rc ps rL, Btw B w0 w d k room S S (prRes p d k v m x id nm ps ra rc rL F) ∧ PrS nm S ps rL
section
variable {B : Nat} {w0 w : World} {d k room id p : Nat} {nm : ByteArray} {S : List Fl} {F : List Res}
set_option maxHeartbeats 4000000 in
theorem popen_fn {pv px : Value} (hn : NameIn B w0 id nm) (hnm : vnmG id = nm) (hone : OneN nm S) (hb : Btw B w0 w d k room S S (.blk p [ptr d, ptr k, pv, px, .int .i64 (id : Int)] 36 :: F)) (hpv : pv.oneCell' = true ∧ px.oneCell' = true) :
    Fn Tryz.prog 12 #[ptr p] w fun r w' =>
      (openE S nm id ≠ 0 → r = .tuple #[.bool true, .bool false] ∧ Btw B w0 w' d k room S S F) ∧
      (openE S nm id = 0 → r = .tuple #[.bool true, .bool true] ∧ ∃ S', szS S' nm ≤ szS S nm ∧ Pr B w0 w' d k room id nm p S' F) := by
  obtain ⟨G, hL, hB, cl⟩ := hb.sep
  clear hb
  refine Fn.mk Tryz.func12 rfl (by kernel_rfl) Tryz.ntmps12 rfl (by rw [Tryz.results12]) ?_
  repeat (first | (refine RunK ?_; intro w hL hB; try clear w) | (refine V.tree ttOk (fun x0 => Sep Tryz.prog _ w0 x0 [.blk p [ptr d, ptr k, pv, px, .int .i64 (id : Int)] 36]) (.q 0 (.q 1 (.q 2 (.q 3 (.q 4 (.q 5 (.q 6 (.q 7 (.alt 8 (.q 9 (.q 10 (.q 11 (.q 12 (.q 13 .nil))))) .stop))))))))) mixed (by decide +kernel) (hL.drew.one (i := 0) rfl) ?_; replace hL := hL.drew; conv => whnf) | (refine V.tailA ttOk mixed (by decide +kernel) ?_; replace hL := hL.drew; conv => whnf) | (refine Both.mk ?_ ?_ <;> conv => whnf) | fail)
  obtain ⟨dR, hD, back⟩ := (cl (F' := _ :: F) hL hB).dk
  refine (vopen_fn hn hD).mono fun r w ⟨h1, h2⟩ => ?_
  have hid := hn.1.1
  by_cases hE : openE S nm id = 0
  case neg =>
    obtain ⟨hr, hD⟩ := h1 hE
    clear h1 h2
    subst hr
    obtain ⟨G, hL, hB, cl⟩ := (back hD).sep
    conv => whnf
    refine ⟨hL.one (i := 0) rfl, ?_⟩
    conv => whnf
    repeat (first | (refine RunK ?_; intro w hL hB; try clear w) | (refine V.tree ttOk (fun x0 => Sep Tryz.prog _ w0 x0 [.blk p [ptr d, ptr k, pv, px, .int .i64 (id : Int)] 36]) (.q 0 (.q 1 (.q 2 (.q 3 (.q 4 (.q 5 (.q 6 (.q 7 (.alt 8 (.q 9 (.q 10 (.q 11 (.q 12 (.q 13 .nil))))) .stop))))))))) mixed (by decide +kernel) (hL.drew.one (i := 0) rfl) ?_; replace hL := hL.drew; conv => whnf) | (refine V.tailA ttOk mixed (by decide +kernel) ?_; replace hL := hL.drew; conv => whnf) | (refine Both.mk ?_ ?_ <;> conv => whnf) | fail)
    obtain ⟨dD, hD, back⟩ := (cl (F' := _ :: F) hL hB).rk
    refine (ropen_fn hid hnm hD).mono fun r w ⟨h1, h2⟩ => ?_
    obtain ⟨hr, hD⟩ := h1 hE
    clear h1 h2
    subst hr
    obtain ⟨G, hL, hB, cl⟩ := (back hD).sep
    generalize openE S nm id = E at *
    conv => whnf
    refine ⟨hL.one (i := 0) rfl, ?_⟩
    conv => whnf
    repeat (first | (refine RunH ?_; intro w hL hB; try clear w) | (refine Both.mk ?_ ?_ <;> conv => whnf) | fail)
    exact ⟨fun _ => ⟨by simp, cl (F' := F) hL.tl hB⟩, fun h => absurd h hE⟩
  obtain ⟨v, m, ps, o, hsc, hnd, hok, hr, hD⟩ := h2 hE
  clear h1 h2
  subst hr
  obtain ⟨G, hL, hB, cl⟩ := (back (F' := _ :: _ :: _ :: F) hD).sep
  replace hL := hL.perm ((List.Perm.cons _ (.swap _ _ _)).trans (.swap _ _ _))
  conv => whnf
  refine ⟨hL.one (i := 0) rfl, ?_⟩
  conv => whnf
  repeat (first | (refine RunK ?_; intro w hL hB; try clear w) | (refine V.tree ttOk (fun x0 => Sep Tryz.prog _ w0 x0 [.blk p [ptr d, ptr k, pv, px, .int .i64 (id : Int)] 36]) (.q 0 (.q 1 (.q 2 (.q 3 (.q 4 (.q 5 (.q 6 (.q 7 (.alt 8 (.q 9 (.q 10 (.q 11 (.q 12 (.q 13 .nil))))) .stop))))))))) mixed (by decide +kernel) (hL.drew.one (i := 0) rfl) ?_; replace hL := hL.drew; conv => whnf) | (refine V.tailA ttOk mixed (by decide +kernel) ?_; replace hL := hL.drew; conv => whnf) | (refine Both.mk ?_ ?_ <;> conv => whnf) | fail)
  obtain ⟨dD, hD, back⟩ := (cl (F' := _ :: _ :: _ :: F) hL hB).rk
  refine (ropen_fn hid hnm hD).mono fun r w ⟨h1, h2⟩ => ?_
  obtain ⟨x, ra, rc, rL, o2, hsc2, hok2, hlen2, hr, hD⟩ := h2 hE
  clear h1 h2
  subst hr
  obtain ⟨hrel, rfl⟩ := scans hsc hsc2 Rel.nil
  have hf8 : 8 ≤ (datS S nm).length := by
    have hE' := hE
    unfold openE at hE'
    unfold datS
    cases hg : getS S nm with
    | none => rw [hg] at hE'; cases hE'
    | some f =>
      rw [hg] at hE'
      dsimp only at hE' ⊢
      split at hE'
      · rename_i h; exact h.1
      · cases hE'
  have hsum := scan_sum hsc (by simp [sumN]) hf8
  have hsz := cutAt_sz hone o hsum.2
  have hsumL := scanL_sum hsc2 (by simp [sumN]) hf8
  have hlenL := sumN_len (ps := rL) (fun q hq => (hok2 q hq).2.2.2.1)
  obtain ⟨G, hL, hB, cl⟩ := (back (F' := rvRes x k id ra rc rL (_ :: _ :: _ :: F)) hD).sep
  rw [rvRes] at hL
  replace hL := hL.perm (List.perm_middle (l₁ := [_, _]))
  conv => whnf
  refine ⟨hL.one (i := 0) rfl, ?_⟩
  conv => whnf
  repeat (first | (refine RunH ?_; intro w hL hB; try clear w) | (refine Both.mk ?_ ?_ <;> conv => whnf) | fail)
  refine ⟨fun h => absurd hE h, fun _ => ⟨rfl, cutAt S nm o, by rw [hsz, ← datS_len]; exact hsum.2, ⟨v, m, x, ra, rc, ps, rL, ?_, ⟨hone.cutAt o, hrel, hok, hok2, by rw [hsz]; exact hsum.1, by rw [hsz]; omega⟩⟩⟩⟩
  refine (cl (F' := _ :: _ :: _ :: _ :: _ :: F) hL hB).perm ?_
  exact (List.perm_append_comm (l₁ := [_, _, _]) (l₂ := [_, _])).append_right F
end
end Go.Proofs.YtpkealgeigpjpaaGreatDoor
