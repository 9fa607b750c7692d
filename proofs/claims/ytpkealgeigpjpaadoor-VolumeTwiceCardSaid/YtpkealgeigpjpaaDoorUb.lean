/- volume: headOf, begins, Size, Create. Nothing is claimed here. -/
import Derived.Test.YtpkealgeigpjpaaDoorUa
namespace Go.Proofs.YtpkealgeigpjpaaDoor
open Go.RowKit
open Go.Maps (Keyed)
set_option linter.unusedVariables false
set_option linter.unusedSimpArgs false
set_option maxRecDepth 100000

def vhd (id : Nat) : List UInt8 := [103, 118, 1, 0] ++ putB id 4
theorem vhd_len (id : Nat) : (vhd id).length = 8 := by simp [vhd, putB_len]
set_option maxHeartbeats 2000000 in
theorem vhead_fn (id : Nat) (hid : id ≤ 99999999) (w0 : World) : Fn Tryd.prog 25 #[.int .i64 (id : Int)] w0 fun r w' => r = .agg (bv (vhd id)).toArray ∧ Below w0.heap.size w0 w' := by
  have hL := Sep.start Tryd.prog w0
  have hB := Nat.le_refl w0.heap.size
  have e8 := vhd_len id
  have ehd : vhd id = [103, 118, 1, 0] ++ putB id 4 := rfl
  generalize vhd id = G at *
  refine Fn.mk Tryd.func25 rfl (by kernel_rfl) Tryd.ntmps25 rfl (by rw [Tryd.results25]) ?_
  repeat (first | (refine RunH ?_; intro w hL hB; try clear w) | (refine Both.mk ?_ ?_ <;> conv => whnf) | fail)
  (refine Nw.sep hL hB (fun t2 w hL hB ht2 => ?_); conv => whnf)
  repeat (first | (refine RunH ?_; intro w hL hB; try clear w) | (refine Both.mk ?_ ?_ <;> conv => whnf) | fail)
  refine Qv.arr (cells := #[.int .u8 103, .int .u8 118, .int .u8 1, .int .u8 0, .int .u8 0, .int .u8 0, .int .u8 0, .int .u8 0]) ttOk tl64 tl5 rfl ?_
  conv => whnf
  (refine Nw.sep hL hB (fun t3 w hL hB ht3 => ?_); conv => whnf)
  repeat (first | (refine RunH ?_; intro w hL hB; try clear w) | (refine Both.mk ?_ ?_ <;> conv => whnf) | fail)
  replace hL := hL.saidN 0 rfl (R' := .blk t3 (bv ([103, 118, 1, 0] ++ List.replicate 4 0)) 64) (hL.at (i := 0) rfl) rfl
  dsimp only [List.set] at hL
  repeat (first | (refine RunK ?_; intro w hL hB; try clear w) | (refine V.treeS ttOk hL 0 (b := t3) rfl (.q 0 (.q 1 (.q 2 (.alt 3 (.alt 4 .nil .stop) .stop)))) mixed (by decide +kernel) ?_; replace hL := hL.drew; conv => whnf) | (refine V.treeS ttOk hL 1 (b := t3) rfl (.q 0 (.q 1 (.q 2 (.alt 3 (.alt 4 .nil .stop) .stop)))) mixed (by decide +kernel) ?_; replace hL := hL.drew; conv => whnf) | (refine V.treeS ttOk hL 2 (b := t3) rfl (.q 0 (.q 1 (.q 2 (.alt 3 (.alt 4 .nil .stop) .stop)))) mixed (by decide +kernel) ?_; replace hL := hL.drew; conv => whnf) | (refine V.treeS ttOk hL 3 (b := t3) rfl (.q 0 (.q 1 (.q 2 (.alt 3 (.alt 4 .nil .stop) .stop)))) mixed (by decide +kernel) ?_; replace hL := hL.drew; conv => whnf) | (refine V.treeS ttOk hL 4 (b := t3) rfl (.q 0 (.q 1 (.q 2 (.alt 3 (.alt 4 .nil .stop) .stop)))) mixed (by decide +kernel) ?_; replace hL := hL.drew; conv => whnf) | (refine V.tailA ttOk mixed (by decide +kernel) ?_; replace hL := hL.drew; conv => whnf) | (refine Both.mk ?_ ?_ <;> conv => whnf) | fail)
  intro o1 n1 c1 z1 z2 z3 z4
  obtain ⟨rfl, rfl, rfl⟩ : o1 = 4 ∧ n1 = 4 ∧ c1 = 4 := by omega
  conv => whnf
  repeat (first | (refine RunH ?_; intro w hL hB; try clear w) | (refine Both.mk ?_ ?_ <;> conv => whnf) | fail)
  refine (put32m id (by omega) _).mono fun r w ⟨ho, hw⟩ => ?_
  replace hL := hL.addRow hB hw ho
  replace hB := Nat.le_trans hB hw.size
  obtain ⟨ra, rc, rfl⟩ := (show SlN w 1 r _ _ from hL.rowN (i := 0) rfl).shape
  rw [putB_len]
  conv => whnf
  repeat (first | (refine RunH ?_; intro w hL hB; try clear w) | (refine Both.mk ?_ ?_ <;> conv => whnf) | fail)
  refine Rv.copyB ttOk hL 1 tl23 tl5 rfl (by have := hL.row (i := 0) rfl; rwa [putB_len] at this) (bv_one _) (by simp) hB fun w hL hB => ?_
  dsimp only [List.set] at hL
  rw [List.take_of_length_le (by simp [putB_len]), splice_tail _ _ 4 0 4 rfl (by simp [putB_len]), List.replicate_zero, List.append_nil, ← ehd] at hL
  replace hL := hL.tl
  conv => whnf
  repeat (first | (refine RunH ?_; intro w hL hB; try clear w) | (refine Both.mk ?_ ?_ <;> conv => whnf) | fail)
  refine Ld.blkW ttOk hL 0 tl64 rfl rfl (by rw [bv_length]; exact e8) ?_
  conv => whnf
  repeat (first | (refine RunH ?_; intro w hL hB; try clear w) | (refine Both.mk ?_ ?_ <;> conv => whnf) | fail)
  refine St.blkW ttOk hL 1 tl64 (by rw [bv_length]; exact e8) (bv_one _) rfl (by rw [bv_length, e8]; rfl) hB fun w hL hB => ?_
  dsimp only [List.set] at hL
  conv => whnf
  repeat (first | (refine RunH ?_; intro w hL hB; try clear w) | (refine Both.mk ?_ ?_ <;> conv => whnf) | fail)
  refine Ld.blkW ttOk hL 1 tl64 rfl rfl (by rw [bv_length]; exact e8) ?_
  conv => whnf
  exact ⟨rfl, hL.below⟩
theorem delS_none : ∀ {S : List Fl} {nm : ByteArray}, getS S nm = none → delS S nm = S
  | [], _, _ => rfl
  | f :: S, nm, h => by
    unfold getS at h
    split at h
    · cases h
    · rename_i hn
      unfold delS
      rw [if_neg hn, delS_none h]
def szS (S : List Fl) (nm : ByteArray) : Nat := match getS S nm with
  | some f => f.d.length
  | none => 0
/-- Name tells this -/
def NameIs (id : Nat) (nm : ByteArray) : Prop := (id ≤ 99999999 ∧ 1 ≤ nm.size ∧ nm.size ≤ 64) ∧ ∀ w, Fn Tryd.prog 12 #[.int .i64 (id : Int)] w fun r w' => r = .string nm ∧ w' = w
theorem nameIs (i : Nat) (hi : i = 1 ∨ i = 3 ∨ i = 5 ∨ i = 7) : NameIs i (vnm i) := ⟨⟨by omega, by rcases hi with rfl | rfl | rfl | rfl <;> decide, by rcases hi with rfl | rfl | rfl | rfl <;> decide⟩, vname_fn i hi⟩
section
variable {B d v m room id : Nat} {nm : ByteArray} {S : List Fl} {F : List Res} {w0 w : World}
theorem begins_fn (hn : NameIs id nm) (hL : Sep Tryd.prog B w0 w F) (hB : B ≤ w.heap.size) :
    Fn Tryd.prog 23 #[ptr d, .int .i64 (id : Int)] w fun r w' => ∃ v m, r = ptr v ∧ Sep Tryd.prog B w0 w' (.blk v (volC d id nm m) 63 :: .mp 32 m (([] : List Pc).map pcE) :: F) ∧ B ≤ w'.heap.size := by
  refine Fn.mk Tryd.func23 rfl (by kernel_rfl) Tryd.ntmps23 rfl (by rw [Tryd.results23]) ?_
  repeat (first | (refine RunH ?_; intro w hL hB; try clear w) | (refine Both.mk ?_ ?_ <;> conv => whnf) | fail)
  refine (hn.2 _).mono fun r w' ⟨hr, hw⟩ => ?_
  subst hr; subst hw
  conv => whnf
  repeat (first | (refine RunH ?_; intro w hL hB; try clear w) | (refine Both.mk ?_ ?_ <;> conv => whnf) | fail)
  refine Nw.sepM hL 32 hB fun m w hL hB _ => ?_
  conv => whnf
  repeat (first | (refine RunH ?_; intro w hL hB; try clear w) | (refine Both.mk ?_ ?_ <;> conv => whnf) | fail)
  (refine Nw.sep hL hB (fun b w hL hB hb => ?_); conv => whnf)
  repeat (first | (refine RunH ?_; intro w hL hB; try clear w) | (refine Both.mk ?_ ?_ <;> conv => whnf) | fail)
  exact ⟨b, m, rfl, hL, hB⟩
theorem vsize_fn (hn : nm.size ≤ 1000000) (hD : DkS B w0 w d room S (.blk v (volC d id nm m) 63 :: F)) :
    Fn Tryd.prog 10 #[ptr v] w fun r w' => r = .int .i64 (szS S nm : Nat) ∧ DkS B w0 w' d room S (.blk v (volC d id nm m) 63 :: F) := by
  obtain ⟨dL, hL, hB, close⟩ := hD.open
  clear hD
  rw [volC] at *
  refine Fn.mk Tryd.func10 rfl (by kernel_rfl) Tryd.ntmps10 rfl (by rw [Tryd.results10]) ?_
  repeat (first | (refine RunK ?_; intro w hL hB; try clear w) | (refine V.tree ttOk (fun x0 => Sep Tryd.prog _ w0 x0 (.blk v [ptr d, .int .i64 (id : Int), .string nm, .map (some m)] 63 :: [])) (.q 0 (.q 1 (.q 2 (.q 3 (.q 4 (.q 5 (.q 6 (.q 7 (.alt 8 (.q 9 (.q 10 (.q 11 (.q 12 (.q 13 .nil))))) .stop))))))))) mixed (by decide +kernel) (hL.drew.sub (.cons_cons _ (List.nil_sublist _))) ?_; replace hL := hL.drew; conv => whnf) | (refine V.tailA ttOk mixed (by decide +kernel) ?_; replace hL := hL.drew; conv => whnf) | (refine Both.mk ?_ ?_ <;> conv => whnf) | fail)
  refine (size_fn nm hn (close (F' := _ :: F) hL hB)).mono fun r w ⟨hr, hD⟩ => ?_
  subst hr
  obtain ⟨dL, hL, hB, close⟩ := hD.open
  clear hD
  conv => whnf
  refine ⟨hL.sub (.cons_cons _ (List.nil_sublist _)), ?_⟩
  conv => whnf
  repeat (first | (refine RunH ?_; intro w hL hB; try clear w) | (refine Both.mk ?_ ?_ <;> conv => whnf) | fail)
  exact ⟨rfl, close (F' := _ :: F) hL hB⟩
set_option maxHeartbeats 2000000 in
theorem create_fn (hn : NameIs id nm) (hD : DkS B w0 w d room S F) :
    Fn Tryd.prog 8 #[ptr d, .int .i64 (id : Int)] w fun r w' =>
      ((getS S nm).isSome = true → r = .tuple #[.pointer none, .int .i64 8] ∧ DkS B w0 w' d room S F) ∧
      ((getS S nm).isSome = false → appE room S nm 8 ≠ 0 → r = .tuple #[.pointer none, .int .i64 (appE room S nm 8 : Nat)] ∧ DkS B w0 w' d room S F) ∧
      ((getS S nm).isSome = false → appE room S nm 8 = 0 → ∃ v m, r = .tuple #[ptr v, .int .i64 0] ∧ DkS B w0 w' d room (syncS (appS room S nm (vhd id)) nm) (.blk v (volC d id nm m) 63 :: .mp 32 m (([] : List Pc).map pcE) :: F)) := by
  have h8 := vhd_len id
  have hnn := hn.1
  have hn6 : nm.size ≤ 1000000 := by omega
  have hid := isID_fn (id : Int)
  rw [decide_eq_true (by omega)] at hid
  have hvh := vhead_fn id hnn.1
  generalize vhd id = G at *
  obtain ⟨dL, hL, hB, close⟩ := hD.open
  clear hD
  refine Fn.mk Tryd.func8 rfl (by kernel_rfl) Tryd.ntmps8 rfl (by rw [Tryd.results8]) ?_
  repeat (first | (refine RunH ?_; intro w hL hB; try clear w) | (refine Both.mk ?_ ?_ <;> conv => whnf) | fail)
  refine (hid _).mono fun r w' ⟨hr, hw⟩ => ?_
  subst hr; subst hw
  conv => whnf
  repeat (first | (refine RunH ?_; intro w hL hB; try clear w) | (refine Both.mk ?_ ?_ <;> conv => whnf) | fail)
  refine (begins_fn hn hL hB).mono fun r w ⟨v, m, hr, hL, hB⟩ => ?_
  subst hr
  rw [volC] at hL
  conv => whnf
  repeat (first | (refine RunH ?_; intro w hL hB; try clear w) | (refine Both.mk ?_ ?_ <;> conv => whnf) | fail)
  refine (size_fn nm hn6 (close (F' := _ :: _ :: F) hL hB)).mono fun r w ⟨hr, hD⟩ => ?_
  subst hr
  obtain ⟨dL, hL, hB, close⟩ := hD.open
  clear hD
  cases hg : getS S nm with
  | some f =>
    conv => whnf
    repeat (first | (refine RunH ?_; intro w hL hB; try clear w) | (refine Both.mk ?_ ?_ <;> conv => whnf) | fail)
    exact ⟨fun _ => ⟨rfl, close (F' := F) hL.tl.tl hB⟩, (fun h => by cases h), (fun h => by cases h)⟩
  | none =>
    conv => whnf
    repeat (first | (refine RunH ?_; intro w hL hB; try clear w) | (refine Both.mk ?_ ?_ <;> conv => whnf) | fail)
    refine (hvh _).mono fun r w ⟨hr, hw⟩ => ?_
    subst hr
    replace hL := hL.call hB (Turns.of_below hw)
    replace hB := Nat.le_trans hB hw.size
    conv => whnf
    (refine Nw.sep hL hB (fun t9 w hL hB ht9 => ?_); conv => whnf)
    repeat (first | (refine RunH ?_; intro w hL hB; try clear w) | (refine Both.mk ?_ ?_ <;> conv => whnf) | fail)
    refine St.blkW ttOk hL 0 tl64 (by rw [bv_length]; exact h8) (bv_one _) rfl (by rw [bv_length, h8]; rfl) hB fun w hL hB => ?_
    dsimp only [List.set] at hL
    conv => whnf
    repeat (first | (refine RunH ?_; intro w hL hB; try clear w) | (refine Both.mk ?_ ?_ <;> conv => whnf) | fail)
    intro n1 c1 z1 z2
    obtain ⟨rfl, rfl⟩ : n1 = 8 ∧ c1 = 8 := by omega
    conv => whnf
    repeat (first | (refine RunH ?_; intro w hL hB; try clear w) | (refine Both.mk ?_ ?_ <;> conv => whnf) | fail)
    refine (append_fn nm hn6 _ G (fun w' h => by
      have := sl_blk (o := 0) (n := 8) (c := 8) (h.blk (i := 0) rfl) (by rw [bv_length, h8]; decide) (by decide) (by decide)
      rwa [List.drop_zero, List.take_of_length_le (by rw [bv_length, h8]; decide)] at this) (close (F' := _ :: _ :: _ :: F) hL hB)).mono fun r w ⟨hr, hD⟩ => ?_
    rw [h8] at hr
    subst hr
    obtain ⟨dL, hL, hB, close⟩ := hD.open
    clear hD
    by_cases hE : appE room S nm 8 = 0
    case neg =>
      rw [show appS room S nm G = S from by rw [appS, h8, if_neg hE]] at close
      conv => whnf
      repeat (first | (refine RunH ?_; intro w hL hB; try clear w) | (refine Both.mk ?_ ?_ <;> conv => whnf) | (refine Br.yes (by simp; omega) ?_; conv => whnf) | fail)
      refine (remove_fn nm hn6 (close (F' := _ :: _ :: _ :: F) hL hB)).mono fun r w ⟨hr, hD⟩ => ?_
      rw [delS_none hg] at hD
      obtain ⟨dL, hL, hB, close⟩ := hD.open
      clear hD
      conv => whnf
      repeat (first | (refine RunH ?_; intro w hL hB; try clear w) | (refine Both.mk ?_ ?_ <;> conv => whnf) | fail)
      exact ⟨(fun h => by cases h), fun _ _ => ⟨rfl, close (F' := F) hL.tl.tl.tl hB⟩, fun _ h => absurd h hE⟩
    rw [hE]
    conv => whnf
    repeat (first | (refine RunH ?_; intro w hL hB; try clear w) | (refine Both.mk ?_ ?_ <;> conv => whnf) | fail)
    refine (sync_fn nm hn6 (close (F' := _ :: _ :: _ :: F) hL hB)).mono fun r w ⟨hr, hD⟩ => ?_
    obtain ⟨dL, hL, hB, close⟩ := hD.open
    clear hD
    conv => whnf
    repeat (first | (refine RunH ?_; intro w hL hB; try clear w) | (refine Both.mk ?_ ?_ <;> conv => whnf) | fail)
    exact ⟨(fun h => by cases h), fun _ h => absurd rfl h, fun _ _ => ⟨v, m, rfl, close (F' := _ :: _ :: F) hL.tl hB⟩⟩
end
end Go.Proofs.YtpkealgeigpjpaaDoor
