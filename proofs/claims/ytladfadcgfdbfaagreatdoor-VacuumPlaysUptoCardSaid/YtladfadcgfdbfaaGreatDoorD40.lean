/- garnerref12: Eight, Name, head; garnerref4.Disk.Size; Create, There. garnerref12: Raw, load, Get. Nothing is claimed here. -/
import Derived.Test.YtladfadcgfdbfaaGreatDoorD33
import Derived.Test.YtladfadcgfdbfaaGreatDoorD34
import Derived.Test.YtladfadcgfdbfaaGreatDoorD31
import Derived.Test.YtladfadcgfdbfaaGreatDoorD39
namespace Go.Proofs.YtladfadcgfdbfaaGreatDoor
open Go.RowKit Go.Lib
set_option linter.unusedVariables false
set_option linter.unusedSimpArgs false
set_option maxRecDepth 100000
/-- i digits -/
def padD : Nat → Nat → List UInt8
  | 0, _ => []
  | i + 1, n => padD i (n / 10) ++ [UInt8.ofNat (48 + n % 10)]
theorem padD_len : ∀ i n, (padD i n).length = i
  | 0, _ => rfl
  | i + 1, n => by rw [padD, List.length_append, padD_len i]; rfl
theorem padD_head : ∀ i n, padD (i + 1) n = [UInt8.ofNat (48 + n / 10 ^ i % 10)] ++ padD i n
  | 0, n => by simp [padD]
  | i + 1, n => by
    rw [padD, padD_head i (n / 10), padD, Nat.div_div_eq_div_mul, Nat.pow_succ, Nat.mul_comm (10 ^ i) 10, List.append_assoc]
theorem padD_zero : ∀ i, padD i 0 = List.replicate i 48
  | 0 => rfl
  | i + 1 => by rw [padD, Nat.zero_div, padD_zero i, List.replicate_succ']; rfl
theorem padD_dec : ∀ (m n : Nat), n < 10 ^ m → 0 < m → List.replicate (m - (decDigits n).length) 48 ++ decDigits n = padD m n
  | m + 1, n, h, _ => by
    rw [decDigits]
    by_cases hn : n < 10
    · rw [dif_pos hn, padD, Nat.div_eq_of_lt hn, padD_zero, Nat.mod_eq_of_lt hn]
      simp
    · rw [dif_neg hn, padD]
      have hm : 0 < m := by
        rcases Nat.eq_zero_or_pos m with rfl | h1
        · simp at h; omega
        · exact h1
      rw [← padD_dec m (n / 10) (by rw [Nat.pow_succ] at h; omega) hm, List.append_assoc]
      congr 2
      simp
theorem dig8_pad {n : Nat} (h : n ≤ 99999999) : dig8 n = padD 8 n := by
  rw [dig8]; exact padD_dec 8 n (by omega) (by decide)
set_option maxHeartbeats 2000000 in
theorem eight_fn (n : Nat) (hn : n ≤ 99999999) (w0 : World) : Fn Tryz.prog 80 #[.int .i64 (n : Int)] w0 fun r w' => r = .string ⟨(dig8 n).toArray⟩ ∧ Below w0.heap.size w0 w' := by
  have hL := Sep.start Tryz.prog w0
  have hB := Nat.le_refl w0.heap.size
  rw [dig8_pad hn]
  refine Fn.mk Tryz.func80 rfl (by kernel_rfl) Tryz.ntmps80 rfl (by rw [Tryz.results80]) ?_
  repeat (first | (refine RunH ?_; intro w hL hB; try clear w) | (refine Both.mk ?_ ?_ <;> conv => whnf) | fail)
  refine V.loop (α := Nat) (fun i => [(0, .int .i64 ((n / 10 ^ i : Nat) : Int)), (3, .string ⟨(padD i n).toArray⟩), (4, .int .i64 (i : Int))])
    (fun i w' => i ≤ 8 ∧ w0.heap.size ≤ w'.heap.size ∧ Sep Tryz.prog w0.heap.size w0 w' []) (fun i => 8 - i) 0 ⟨by simp; rfl, rfl, rfl, trivial⟩ ⟨by decide, hB, hL⟩ ?_
  clear hL hB
  rintro i w ⟨hi, hB, hL⟩
  by_cases h8 : i < 8
  · have hdv : n / 10 ^ i ≤ 99999999 := Nat.le_trans (Nat.div_le_self _ _) hn
    have hsuc : n / 10 ^ (i + 1) = n / 10 ^ i / 10 := by rw [Nat.pow_succ, Nat.div_div_eq_div_mul]
    have hpad := padD_head i n
    have hpl := padD_len i n
    generalize n / 10 ^ i = q at *
    repeat (first | (refine RunH ?_; intro w hL hB; try clear w) | (refine Both.mk ?_ ?_ <;> conv => whnf) | fail)
    refine Rem.at q 10 rfl rfl (by decide) ?_
    conv => whnf
    repeat (first | (refine RunH ?_; intro w hL hB; try clear w) | (refine Both.mk ?_ ?_ <;> conv => whnf) | fail)
    have hc : (.int .u8 (48 + ((q % 10 : Nat) : Int)) : Value) = u8 (UInt8.ofNat (48 + q % 10)) := by
      rw [u8, UInt8.toNat_ofNat', Nat.mod_eq_of_lt (show 48 + q % 10 < 256 by omega)]
      rfl
    rw [hc]
    generalize UInt8.ofNat (48 + q % 10) = ch at *
    refine Rv.buildS (len := 1) (vs := [u8 ch]) ttOk hL tl40 tl5 rfl rfl (by intro u hu; simp only [List.mem_singleton] at hu; subst hu; rfl) (by decide) (by decide) hB fun bo w hL hB => ?_
    replace hL : Sep Tryz.prog w0.heap.size w0 w (.row 5 1 (.slice (some ⟨bo, 0, none⟩) 1 1) 1 (bv [ch]) :: _) := hL
    conv => whnf
    repeat (first | (refine RunH ?_; intro w hL hB; try clear w) | (refine Both.mk ?_ ?_ <;> conv => whnf) | fail)
    refine Rv.toStr ttOk tl40 tl5 tl9 (hL.row (i := 0) rfl) ?_
    conv => whnf
    repeat (first | (refine RunH ?_; intro w hL hB; try clear w) | (refine Both.mk ?_ ?_ <;> conv => whnf) | fail)
    refine Chk.mk (by
      show [ch].toArray.size + (padD i n).toArray.size ≤ _
      simp [hpl]; omega) ?_
    conv => whnf
    repeat (first | (refine RunH ?_; intro w hL hB; try clear w) | (refine Both.mk ?_ ?_ <;> conv => whnf) | fail)
    refine Quo.at q 10 rfl rfl (by decide) ?_
    conv => whnf
    repeat (first | (refine RunH ?_; intro w hL hB; try clear w) | (refine Both.mk ?_ ?_ <;> conv => whnf) | fail)
    refine ⟨i + 1, ⟨vint (by push_cast [hsuc]; rfl), ?_, vint (by push_cast; rfl), trivial⟩, ⟨by omega, hB, hL.tl⟩, (by first | omega | (dsimp only; omega))⟩
    refine congrArg (fun s => some (Value.string s)) ?_
    rw [hpad]
    apply ByteArray.ext
    simp [mkB]
  · obtain rfl : i = 8 := by omega
    repeat (first | (refine RunH ?_; intro w hL hB; try clear w) | (refine Both.mk ?_ ?_ <;> conv => whnf) | fail)
    exact ⟨rfl, hL.below⟩
theorem dig8_size {i : Nat} (h : i ≤ 99999999) : (⟨(dig8 i).toArray⟩ : ByteArray).size = 8 := by
  show (dig8 i).toArray.size = 8
  simp [dig8_len h]
set_option maxHeartbeats 1000000 in
theorem nameR_fn (i : Nat) (hi : i ≤ 99999999) (w0 : World) : Fn Tryz.prog 44 #[.int .i64 (i : Int)] w0 fun r w' => r = .string (vnmG i) ∧ Below w0.heap.size w0 w' := by
  have hL := Sep.start Tryz.prog w0
  have hB := Nat.le_refl w0.heap.size
  have h8 := dig8_size hi
  refine Fn.mk Tryz.func44 rfl (by kernel_rfl) Tryz.ntmps44 rfl (by rw [Tryz.results44]) ?_
  repeat (first | (refine RunH ?_; intro w hL hB; try clear w) | (refine Both.mk ?_ ?_ <;> conv => whnf) | fail)
  refine (eight_fn i hi _).mono fun r w ⟨hr, hw⟩ => ?_
  subst hr
  replace hL := hL.call hB (Turns.of_below hw)
  replace hB := Nat.le_trans hB hw.size
  conv => whnf
  repeat (first | (refine RunH ?_; intro w hL hB; try clear w) | (refine Both.mk ?_ ?_ <;> conv => whnf) | fail)
  have s1 : (⟨#[118]⟩ : ByteArray).size = 1 := rfl
  have s4 : (⟨#[46, 100, 97, 116]⟩ : ByteArray).size = 4 := rfl
  have e1 : ∀ x y : ByteArray, (x ++ y).size = x.size + y.size := fun x y => ByteArray.size_append
  refine Chk.mk (by rw [h8, s1]; omega) ?_
  conv => whnf
  repeat (first | (refine RunH ?_; intro w hL hB; try clear w) | (refine Both.mk ?_ ?_ <;> conv => whnf) | fail)
  refine Chk.mk (by rw [e1, h8, s1, s4]; omega) ?_
  conv => whnf
  repeat (first | (refine RunH ?_; intro w hL hB; try clear w) | (refine Both.mk ?_ ?_ <;> conv => whnf) | fail)
  refine ⟨congrArg Value.string ?_, hL.below⟩
  apply ByteArray.ext
  simp [vnmG]
set_option maxHeartbeats 1000000 in
theorem vheadR_fn (id : Nat) (hid : id ≤ 99999999) (w0 : World) : Fn Tryz.prog 47 #[.int .i64 (id : Int)] w0 fun r w' => w'.ownsRow w0.heap.size 5 1 r (vhd id).length (bv (vhd id)) ∧ Below w0.heap.size w0 w' := by
  have hL := Sep.start Tryz.prog w0
  have hB := Nat.le_refl w0.heap.size
  have ehd : vhd id = [103, 118, 1, 0] ++ putB id 4 := rfl
  generalize vhd id = G at *
  refine Fn.mk Tryz.func47 rfl (by kernel_rfl) Tryz.ntmps47 rfl (by rw [Tryz.results47]) ?_
  repeat (first | (refine RunH ?_; intro w hL hB; try clear w) | (refine Both.mk ?_ ?_ <;> conv => whnf) | fail)
  refine Rv.buildS (len := 4) (vs := [.int .u8 103, .int .u8 118, .int .u8 1, .int .u8 0]) ttOk hL tl40 tl5 rfl rfl (by simp [cellsL]) (by decide) (by decide) hB fun bo w hL hB => ?_
  replace hL : Sep Tryz.prog w0.heap.size w0 w (.row 5 1 (.slice (some ⟨bo, 0, none⟩) 4 4) 4 (bv [103, 118, 1, 0]) :: _) := hL
  conv => whnf
  repeat (first | (refine RunH ?_; intro w hL hB; try clear w) | (refine Both.mk ?_ ?_ <;> conv => whnf) | fail)
  refine (put32Rm id (by omega) _).mono fun r w ⟨ho, hw⟩ => ?_
  replace hL := hL.addRow hB hw ho
  replace hB := Nat.le_trans hB hw.size
  clear ho hw
  generalize hX : putB id 4 = X at *
  have hXl : X.length = 4 := by rw [← hX]; exact putB_len _ _
  obtain ⟨ra, rc, rfl⟩ := (show SlN w 1 r _ _ from hL.rowN (i := 0) rfl).shape
  conv => whnf
  repeat (first | (refine RunH ?_; intro w hL hB; try clear w) | (refine Both.mk ?_ ?_ <;> conv => whnf) | fail)
  refine Rv.appendS ttOk hL tl40 tl5 rfl (by decide) 1 rfl (hL.rowN (i := 0) rfl) (bv_one _) (by simp only [maxLen]; omega) (by omega) hB fun vo w hL hB => ?_
  dsimp only [List.set] at hL
  have hGl : 4 + X.length = G.length := by rw [ehd, List.length_append]; rfl
  rw [← bv_append, ← ehd, hGl] at hL
  conv => whnf
  repeat (first | (refine RunH ?_; intro w hL hB; try clear w) | (refine Both.mk ?_ ?_ <;> conv => whnf) | fail)
  exact ⟨hL.ownR (i := 1) rfl, hL.below⟩
set_option maxHeartbeats 2000000 in
theorem sizeR4_fn {B b room : Nat} {R : List Fl} {F : List Res} (nm : ByteArray) {w0 w : World} (hD : RkS B w0 w b room R F) :
    Fn Tryz.prog 45 #[ptr b, .string nm] w fun r w' => r = .tuple #[.int .i64 (szS R nm : Nat), .bool (getS R nm).isSome] ∧ RkS B w0 w' b room R F := by
  obtain ⟨⟨L, fs, rfl, hok, hL⟩, hB⟩ := hD
  refine Fn.mk Tryz.func45 rfl (by kernel_rfl) Tryz.ntmps45 rfl (by rw [Tryz.results45]) ?_
  repeat (first | (refine RunH ?_; intro w hL hB; try clear w) | (refine Both.mk ?_ ?_ <;> conv => whnf) | fail)
  refine (spot_fn nm hok.ok.len hL hB).mono fun r w ⟨A, C, h1, h2, h3, hr, hL, hB⟩ => ?_
  subst hr
  have hat := At.of h1 h2 h3
  clear h1 h2 h3
  have hg := getF_fl fs nm
  cases hd : hdN C nm with
  | false =>
    rw [hat.no hok.srt hd] at hg
    rw [szS, hg]
    conv => whnf
    repeat (first | (refine RunH ?_; intro w hL hB; try clear w) | (refine Both.mk ?_ ?_ <;> conv => whnf) | fail)
    exact ⟨rfl, RkS.mk' hok hL hB⟩
  | true =>
    obtain ⟨f, C', rfl, hfn, hgn⟩ := hat.yes hd
    rw [hgn] at hg
    rw [szS, hg]
    obtain rfl := hat.eq
    have hl1 := len1 hok.ok f (by simp)
    have hget : (A ++ f :: C')[A.length]? = some f := by simp
    have hlA : (A ++ f :: C').length = A.length + C'.length + 1 := by simp; omega
    simp only [rkRes, List.cons_append] at hL
    obtain ⟨va, vc, hfv⟩ := rk_shape (X := [_, _]) hL f (by simp)
    obtain ⟨g, gcap, rfl, hgcap⟩ := own_shape0 (hL.ownR (i := 1) rfl) (by omega)
    conv => whnf
    repeat (first | (refine RunH ?_; intro w hL hB; try clear w) | (refine Both.mk ?_ ?_ <;> conv => whnf) | fail)
    intro o1 ho1
    conv => whnf
    refine Ld.rowF ttOk f3_len 1 (hL.rowN (i := 1) rfl).rowOf tl40 rfl hget (by rw [f3, hfv]; rfl) (by omega) ?_
    conv => whnf
    repeat (first | (refine RunH ?_; intro w hL hB; try clear w) | (refine Both.mk ?_ ?_ <;> conv => whnf) | fail)
    exact ⟨rfl, RkS.mk' (L := .slice (some ⟨g, 0, none⟩) (A ++ f :: C').length gcap) hok hL hB⟩
/-- the reference's volume -/
def rvC (k id : Nat) (v : Value) : List Value := [ptr k, .int .i64 (id : Int), v]
/-- a disk has this file alone, or none -/
def OneN (nm : ByteArray) (S : List Fl) : Prop := S = [] ∨ ∃ d la, S = [⟨nm, d, la⟩]
theorem OneN.perm {nm : ByteArray} {S R : List Fl} (h : OneN nm S) (hp : R.Perm S) : R = S := by
  rcases h with rfl | ⟨d, la, rfl⟩
  · exact hp.eq_nil
  · exact hp.eq_singleton
theorem OneN.app {nm : ByteArray} {S : List Fl} (h : OneN nm S) (room : Nat) (xs : List UInt8) : OneN nm (appS room S nm xs) := by
  rw [appS]
  split
  · rcases h with rfl | ⟨d, la, rfl⟩
    · exact .inr ⟨_, _, rfl⟩
    · exact .inr ⟨d ++ xs, la, by simp [appF, getS, putS]⟩
  · exact h
section
variable {B k room id : Nat} {R : List Fl} {F : List Res} {w0 w : World}
set_option maxHeartbeats 2000000 in
theorem createR_fn (hid : id ≤ 99999999) (hR : RkS B w0 w k room [] F) :
    Fn Tryz.prog 15 #[ptr k, .int .i64 (id : Int)] w fun r w' =>
      (appE room [] (vnmG id) 8 ≠ 0 → r = .tuple #[.pointer none, .int .i64 (appE room [] (vnmG id) 8 : Nat)] ∧ RkS B w0 w' k room [] F) ∧
      (appE room [] (vnmG id) 8 = 0 → ∃ x, r = .tuple #[ptr x, .int .i64 0] ∧ RkS B w0 w' k room (syncS (appS room [] (vnmG id) (vhd id)) (vnmG id)) (.blk x (rvC k id (.slice none 0 0)) 107 :: F)) := by
  have hs := vnmG_size hid
  have hnm : (vnmG id).size ≤ 140737488355328 := by omega
  have hname := nameR_fn id hid
  generalize vnmG id = nm at *
  have h8 := vhd_len id
  have hhd := vheadR_fn id hid
  generalize vhd id = G at *
  obtain ⟨dL, hL, hB, close⟩ := hR.open
  clear hR
  refine Fn.mk Tryz.func15 rfl (by kernel_rfl) Tryz.ntmps15 rfl (by rw [Tryz.results15]) ?_
  repeat (first | (refine RunH ?_; intro w hL hB; try clear w) | (refine Both.mk ?_ ?_ <;> conv => whnf) | fail)
  refine (hname _).mono fun r w ⟨hr, hw⟩ => ?_
  subst hr
  replace hL := hL.call hB (Turns.of_below hw)
  replace hB := Nat.le_trans hB hw.size
  conv => whnf
  repeat (first | (refine RunH ?_; intro w hL hB; try clear w) | (refine Both.mk ?_ ?_ <;> conv => whnf) | fail)
  have hne : ¬ nm = ⟨#[]⟩ := fun e => by rw [e] at hs; exact absurd hs (by decide)
  refine Br.no (decide_eq_false hne) ?_
  conv => whnf
  repeat (first | (refine RunH ?_; intro w hL hB; try clear w) | (refine Both.mk ?_ ?_ <;> conv => whnf) | fail)
  refine (sizeR4_fn nm (close (F' := F) hL hB)).mono fun r w ⟨hr, hD⟩ => ?_
  subst hr
  clear close hL hB
  obtain ⟨dL, hL, hB, close⟩ := hD.open
  clear hD
  conv => whnf
  repeat (first | (refine RunH ?_; intro w hL hB; try clear w) | (refine Both.mk ?_ ?_ <;> conv => whnf) | fail)
  refine (hhd _).mono fun r w ⟨ho, hw⟩ => ?_
  replace hL := hL.addRow hB hw ho
  replace hB := Nat.le_trans hB hw.size
  clear ho hw
  obtain ⟨ra, rc, rfl⟩ := (show SlN w 1 r _ _ from hL.rowN (i := 0) rfl).shape
  conv => whnf
  repeat (first | (refine RunH ?_; intro w hL hB; try clear w) | (refine Both.mk ?_ ?_ <;> conv => whnf) | fail)
  refine (appendR_fn nm hnm _ G (by omega) (fun w' h => by have := h.row (i := 0) rfl; exact this) (close (F' := _ :: F) hL hB)).mono fun r w ⟨hr, R', hp, hD⟩ => ?_
  rw [h8] at hr
  subst hr
  clear close hL hB
  have one := OneN.app (nm := nm) (.inl rfl) room G
  obtain rfl := one.perm hp
  obtain ⟨dL, hL, hB, close⟩ := hD.open
  clear hD
  by_cases hE : appE room [] nm 8 = 0
  case neg =>
    rw [show appS room [] nm G = [] from by rw [appS, h8, if_neg hE]] at close
    conv => whnf
    repeat (first | (refine RunH ?_; intro w hL hB; try clear w) | (refine Both.mk ?_ ?_ <;> conv => whnf) | (refine Br.yes (by simp; omega) ?_; conv => whnf) | fail)
    refine (removeR_fn nm (close (F' := _ :: F) hL hB)).mono fun r w ⟨hr, hD⟩ => ?_
    clear close hL hB
    obtain ⟨dL, hL, hB, close⟩ := hD.open
    clear hD
    conv => whnf
    repeat (first | (refine RunH ?_; intro w hL hB; try clear w) | (refine Both.mk ?_ ?_ <;> conv => whnf) | fail)
    exact ⟨fun _ => ⟨rfl, close (F' := F) hL.tl hB⟩, fun h => absurd h hE⟩
  rw [hE]
  conv => whnf
  repeat (first | (refine RunH ?_; intro w hL hB; try clear w) | (refine Both.mk ?_ ?_ <;> conv => whnf) | fail)
  refine (syncR_fn nm (close (F' := _ :: F) hL hB)).mono fun r w ⟨hr, hD⟩ => ?_
  clear close hL hB
  obtain ⟨dL, hL, hB, close⟩ := hD.open
  clear hD
  conv => whnf
  repeat (first | (refine RunH ?_; intro w hL hB; try clear w) | (refine Both.mk ?_ ?_ <;> conv => whnf) | fail)
  (refine Nw.sep hL hB (fun x w hL hB hx => ?_); conv => whnf)
  repeat (first | (refine RunH ?_; intro w hL hB; try clear w) | (refine Both.mk ?_ ?_ <;> conv => whnf) | fail)
  exact ⟨fun h => absurd rfl h, fun _ => ⟨x, rfl, close (F' := _ :: F) (hL.sub (.cons_cons _ (.cons _ (.refl _)))) hB⟩⟩
def zPc : List Value := [.int .u64 0, .int .i64 0, .int .i64 0, .int .u32 0, .bool false]
def poC (o : Option Pc) : List Value := match o with
  | some p => pcC p
  | none => zPc
set_option maxHeartbeats 4000000 in
theorem thereR_fn {x n : Nat} {ra : Option Addr} {rc : Nat} {rL : List Pc} (key : Nat) (hC : Blk w0 x (rvC k id (.slice ra n rc)) 107) (hs : SlN w0 5 (.slice ra n rc) rL.length (rL.flatMap pcC)) :
    Fn Tryz.prog 87 #[ptr x, .int .u64 (key : Int)] w0 fun r w' => r = .tuple #[pcOf (there none rL key), .bool (there none rL key).isSome] ∧ Below w0.heap.size w0 w' := by
  have hL := Sep.start Tryz.prog w0
  have hB := Nat.le_refl w0.heap.size
  have hle := hs.le
  obtain ⟨a', c', he⟩ := hs.shape
  injection he with e1 e2 e3
  subst e1; subst e2; subst e3
  rw [rvC] at hC
  refine Fn.mk Tryz.func87 rfl (by kernel_rfl) Tryz.ntmps87 rfl (by rw [Tryz.results87]) ?_
  repeat (first | (refine RunH ?_; intro w hL hB; try clear w) | (refine Both.mk ?_ ?_ <;> conv => whnf) | fail)
  (refine Nw.sep hL hB (fun t4 w hL hB ht4 => ?_); conv => whnf)
  repeat (first | (refine RunH ?_; intro w hL hB; try clear w) | (refine Both.mk ?_ ?_ <;> conv => whnf) | fail)
  (refine Nw.sep hL hB (fun t6 w hL hB ht6 => ?_); conv => whnf)
  repeat (first | (refine RunH ?_; intro w hL hB; try clear w) | (refine Both.mk ?_ ?_ <;> conv => whnf) | fail)
  refine V.loop (α := Nat × Option Pc) (fun z => [(0, ptr x), (1, .int .u64 (key : Int)), (4, ptr t4), (6, ptr t6), (7, .bool z.2.isSome), (8, .int .i64 (z.1 : Int))])
    (fun z w' => z.1 ≤ rL.length ∧ there z.2 (rL.drop z.1) key = there none rL key ∧ w0.heap.size ≤ w'.heap.size ∧ Sep Tryz.prog w0.heap.size w0 w' [.blk t6 (poC z.2) 87, .blk t4 [.int .u64 0, .int .i64 0, .int .i64 0, .int .u32 0, .bool false] 87])
    (fun z => rL.length - z.1) (0, none) ⟨rfl, rfl, rfl, rfl, rfl, rfl, trivial⟩ ⟨by simp, rfl, hB, hL⟩ ?_
  clear hL hB
  rintro ⟨i, f⟩ w ⟨hi, hth, hB, hL⟩
  dsimp only at hi hth hL ⊢
  by_cases hil : i < rL.length
  · have hdrop : rL.drop i = rL[i] :: rL.drop (i + 1) := List.drop_eq_getElem_cons hil
    have hget := List.getElem?_eq_getElem hil
    rw [hdrop, there] at hth
    generalize rL[i] = p at *
    obtain ⟨bb, o, rfl, hrow0⟩ := hs.addr (by omega)
    have hrow : ∀ {w : World} {L : List Res}, Sep Tryz.prog w0.heap.size w0 w L → Row w bb o (rL.flatMap pcC) := fun h => (hs.below h.below).rowOf
    repeat (first | (refine RunH ?_; intro w hL hB; try clear w) | (refine Both.mk ?_ ?_ <;> conv => whnf) | fail)
    intro o1 ho1
    conv => whnf
    repeat (first | (refine RunH ?_; intro w hL hB; try clear w) | (refine Both.mk ?_ ?_ <;> conv => whnf) | fail)
    refine Ld.rowF ttOk pcC_len 0 (hrow hL) tl38 rfl hget rfl (by omega) ?_
    conv => whnf
    by_cases hk : p.key = key
    case neg =>
      rw [if_neg hk] at hth
      repeat (first | (refine RunH ?_; intro w hL hB; try clear w) | (refine Both.mk ?_ ?_ <;> conv => whnf) | fail)
      exact ⟨(i + 1, f), ⟨rfl, rfl, rfl, rfl, rfl, vint (by push_cast; rfl), trivial⟩, ⟨by dsimp only; omega, hth, hB, hL⟩, (by first | omega | (dsimp only; omega))⟩
    rw [if_pos hk] at hth
    repeat (first | (refine RunH ?_; intro w hL hB; try clear w) | (refine Both.mk ?_ ?_ <;> conv => whnf) | fail)
    intro o2 ho2
    conv => whnf
    repeat (first | (refine RunH ?_; intro w hL hB; try clear w) | (refine Both.mk ?_ ?_ <;> conv => whnf) | fail)
    refine Ld.rowF ttOk pcC_len 4 (hrow hL) tl4 rfl hget rfl (by omega) ?_
    conv => whnf
    cases hd : p.dead with
    | true =>
      rw [hd, if_pos rfl] at hth
      repeat (first | (refine RunH ?_; intro w hL hB; try clear w) | (refine Both.mk ?_ ?_ <;> conv => whnf) | fail)
      intro o3 ho3
      conv => whnf
      refine Ld.rowN ttOk pcC_len (hrow hL) tl87 rfl rfl hget (by omega) ?_
      conv => whnf
      repeat (first | (refine RunH ?_; intro w hL hB; try clear w) | (refine Both.mk ?_ ?_ <;> conv => whnf) | fail)
      rw [← hth]
      exact ⟨rfl, hL.below⟩
    | false =>
      rw [hd, if_neg (by decide)] at hth
      cases f with
      | none =>
        repeat (first | (refine RunH ?_; intro w hL hB; try clear w) | (refine Both.mk ?_ ?_ <;> conv => whnf) | fail)
        intro o3 ho3
        conv => whnf
        refine Ld.rowN ttOk pcC_len (hrow hL) tl87 rfl rfl hget (by omega) ?_
        rw [poC, zPc] at hL
        conv => whnf
        repeat (first | (refine RunH ?_; intro w hL hB; try clear w) | (refine Both.mk ?_ ?_ <;> conv => whnf) | fail)
        exact ⟨(i + 1, some p), ⟨rfl, rfl, rfl, rfl, rfl, vint (by push_cast; rfl), trivial⟩, ⟨by dsimp only; omega, hth, hB, hL⟩, (by first | omega | (dsimp only; omega))⟩
      | some q =>
        repeat (first | (refine RunH ?_; intro w hL hB; try clear w) | (refine Both.mk ?_ ?_ <;> conv => whnf) | fail)
        exact ⟨(i + 1, some q), ⟨rfl, rfl, rfl, rfl, rfl, vint (by push_cast; rfl), trivial⟩, ⟨by dsimp only; omega, hth, hB, hL⟩, (by first | omega | (dsimp only; omega))⟩
  · obtain rfl : i = rL.length := by omega
    rw [List.drop_length, there] at hth
    rw [← hth]
    cases f with
    | none =>
      rw [poC, zPc] at hL
      repeat (first | (refine RunH ?_; intro w hL hB; try clear w) | (refine Both.mk ?_ ?_ <;> conv => whnf) | fail)
      exact ⟨rfl, hL.below⟩
    | some q =>
      rw [poC, pcC] at hL
      repeat (first | (refine RunH ?_; intro w hL hB; try clear w) | (refine Both.mk ?_ ?_ <;> conv => whnf) | fail)
      exact ⟨rfl, hL.below⟩
end
end Go.Proofs.YtladfadcgfdbfaaGreatDoor
namespace Go.Proofs.YtladfadcgfdbfaaGreatDoor
open Go.RowKit Go.Lib
set_option linter.unusedVariables false
set_option linter.unusedSimpArgs false
set_option maxRecDepth 100000
section
variable {B k x room id : Nat} {rv : Value} {R : List Fl} {F : List Res} {w0 w : World}
end
end Go.Proofs.YtladfadcgfdbfaaGreatDoor
