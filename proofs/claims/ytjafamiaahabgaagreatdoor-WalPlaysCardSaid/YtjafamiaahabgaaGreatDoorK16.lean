/- garnerref10: Name, number. wal: Log.read: one segment's file is read. Nothing is claimed here. -/
import Derived.Test.YtjafamiaahabgaaGreatDoorK15
import Derived.Test.YtjafamiaahabgaaGreatDoorK14
namespace Go.Proofs.YtjafamiaahabgaaGreatDoor
open Go.RowKit Go.Lib
set_option linter.unusedVariables false
set_option linter.unusedSimpArgs false
set_option maxRecDepth 100000

/-- i digits -/
def padW : Nat → Nat → List UInt8
  | 0, _ => []
  | i + 1, n => padW i (n / 10) ++ [UInt8.ofNat (48 + n % 10)]
theorem padW_len : ∀ i n, (padW i n).length = i
  | 0, _ => rfl
  | i + 1, n => by rw [padW, List.length_append, padW_len i]; rfl
theorem padW_head : ∀ i n, padW (i + 1) n = [UInt8.ofNat (48 + n / 10 ^ i % 10)] ++ padW i n
  | 0, n => by simp [padW]
  | i + 1, n => by
    rw [padW, padW_head i (n / 10), padW, Nat.div_div_eq_div_mul, Nat.pow_succ, Nat.mul_comm (10 ^ i) 10, List.append_assoc]
theorem padW_zero : ∀ i, padW i 0 = List.replicate i 48
  | 0 => rfl
  | i + 1 => by rw [padW, Nat.zero_div, padW_zero i, List.replicate_succ']; rfl
theorem padW_dec : ∀ (m n : Nat), n < 10 ^ m → 0 < m → List.replicate (m - (decDigits n).length) 48 ++ decDigits n = padW m n
  | m + 1, n, h, _ => by
    rw [decDigits]
    by_cases hn : n < 10
    · rw [dif_pos hn, padW, Nat.div_eq_of_lt hn, padW_zero, Nat.mod_eq_of_lt hn]
      simp
    · rw [dif_neg hn, padW]
      have hm : 0 < m := by
        rcases Nat.eq_zero_or_pos m with rfl | h1
        · simp at h; omega
        · exact h1
      rw [← padW_dec m (n / 10) (by rw [Nat.pow_succ] at h; omega) hm, List.append_assoc]
      congr 2
      simp
theorem dig8_padW {n : Nat} (h : n ≤ 99999999) : dig8 n = padW 8 n := by
  rw [dig8]; exact padW_dec 8 n (by omega) (by decide)
set_option maxHeartbeats 2000000 in
theorem nameW_fn (pre : ByteArray) (hp : pre.size ≤ 1000000) (n : Nat) (hn : n ≤ 99999999) (w0 : World) : Fn Tryz.prog 80 #[.string pre, .int .i64 (n : Int)] w0 fun r w' => r = .string (wnm pre n) ∧ Below w0.heap.size w0 w' := by
  have hL := Sep.start Tryz.prog w0
  have hB := Nat.le_refl w0.heap.size
  have hsz := wnm_size (pre := pre) hn
  have hwn : wnm pre n = pre ++ ⟨#[46]⟩ ++ ⟨(padW 8 n).toArray⟩ := by rw [← dig8_padW hn]; rfl
  rw [hwn] at *
  refine Fn.mk Tryz.func80 rfl (by kernel_rfl) Tryz.ntmps80 rfl (by rw [Tryz.results80]) ?_
  repeat (first | (refine RunH ?_; intro w hL hB; try clear w) | (refine Both.mk ?_ ?_ <;> conv => whnf) | fail)
  refine V.loop (α := Nat) (fun i => [(0, .string pre), (1, .int .i64 ((n / 10 ^ i : Nat) : Int)), (5, .string ⟨(padW i n).toArray⟩), (6, .int .i64 (i : Int))])
    (fun i w' => i ≤ 8 ∧ w0.heap.size ≤ w'.heap.size ∧ Sep Tryz.prog w0.heap.size w0 w' []) (fun i => 8 - i) 0 ⟨rfl, by simp; rfl, rfl, rfl, trivial⟩ ⟨by decide, hB, hL⟩ ?_
  clear hL hB
  rintro i w ⟨hi, hB, hL⟩
  by_cases h8 : i < 8
  · have hdv : n / 10 ^ i ≤ 99999999 := Nat.le_trans (Nat.div_le_self _ _) hn
    have hsuc : n / 10 ^ (i + 1) = n / 10 ^ i / 10 := by rw [Nat.pow_succ, Nat.div_div_eq_div_mul]
    have hpad := padW_head i n
    have hpl := padW_len i n
    generalize n / 10 ^ i = q at *
    repeat (first | (refine RunH ?_; intro w hL hB; try clear w) | (refine Both.mk ?_ ?_ <;> conv => whnf) | fail)
    refine Rem.at q 10 rfl rfl (by decide) ?_
    conv => whnf
    repeat (first | (refine RunH ?_; intro w hL hB; try clear w) | (refine Both.mk ?_ ?_ <;> conv => whnf) | fail)
    have hc : (.int .u8 (48 + ((q % 10 : Nat) : Int)) : Value) = u8 (UInt8.ofNat (48 + q % 10)) := by
      rw [u8, UInt8.toNat_ofNat', Nat.mod_eq_of_lt (show 48 + q % 10 < 256 by omega)]
      rfl
    rw [hc]
    generalize UInt8.ofNat (48 + q % 10) = ch at *
    refine Rv.buildS (len := 1) (vs := [u8 ch]) ttOk hL tl23 tl5 rfl rfl (by intro u hu; simp only [List.mem_singleton] at hu; subst hu; rfl) (by decide) (by decide) hB fun bo w hL hB => ?_
    replace hL : Sep Tryz.prog w0.heap.size w0 w (.row 5 1 (.slice (some ⟨bo, 0, none⟩) 1 1) 1 (bv [ch]) :: _) := hL
    conv => whnf
    repeat (first | (refine RunH ?_; intro w hL hB; try clear w) | (refine Both.mk ?_ ?_ <;> conv => whnf) | fail)
    refine Rv.toStr ttOk tl23 tl5 tl9 (hL.row (i := 0) rfl) ?_
    conv => whnf
    repeat (first | (refine RunH ?_; intro w hL hB; try clear w) | (refine Both.mk ?_ ?_ <;> conv => whnf) | fail)
    refine Chk.mk (by
      show [ch].toArray.size + (padW i n).toArray.size ≤ _
      simp [hpl]; omega) ?_
    conv => whnf
    repeat (first | (refine RunH ?_; intro w hL hB; try clear w) | (refine Both.mk ?_ ?_ <;> conv => whnf) | fail)
    refine Quo.at q 10 rfl rfl (by decide) ?_
    conv => whnf
    repeat (first | (refine RunH ?_; intro w hL hB; try clear w) | (refine Both.mk ?_ ?_ <;> conv => whnf) | fail)
    refine ⟨i + 1, ⟨rfl, vint (by push_cast [hsuc]; rfl), ?_, vint (by push_cast; rfl), trivial⟩, ⟨by omega, hB, hL.tl⟩, (by first | omega | (dsimp only; omega))⟩
    refine congrArg (fun s => some (Value.string s)) ?_
    rw [hpad]
    apply ByteArray.ext
    simp [mkB]
  · obtain rfl : i = 8 := by omega
    have e8 : (⟨(padW 8 n).toArray⟩ : ByteArray).size = 8 := by
      show (padW 8 n).toArray.size = 8
      simp [padW_len]
    have s1 : (⟨#[46]⟩ : ByteArray).size = 1 := rfl
    have e1 : ∀ x y : ByteArray, (x ++ y).size = x.size + y.size := fun x y => ByteArray.size_append
    repeat (first | (refine RunH ?_; intro w hL hB; try clear w) | (refine Both.mk ?_ ?_ <;> conv => whnf) | fail)
    refine Chk.mk (by rw [e1, s1, e8]; omega) ?_
    conv => whnf
    repeat (first | (refine RunH ?_; intro w hL hB; try clear w) | (refine Both.mk ?_ ?_ <;> conv => whnf) | fail)
    exact ⟨rfl, hL.below⟩
def numI (o : Option Nat) : Int := match o with
  | some n => n
  | none => -1
theorem nmB_take (nm : ByteArray) (k : Nat) : nmB (nm.extract 0 k) = (nmB nm).take k := by
  rw [nmB, ByteArray.data_extract, Array.toList_extract, List.extract_eq_take_drop]
  simp [nmB]
theorem hasP_iff {nm pre : ByteArray} (h : pre.size + 1 ≤ nm.size) : hasP nm (pre ++ ⟨#[46]⟩) = true ↔ nm.extract 0 pre.size = pre ∧ (nmB nm)[pre.size]? = some 46 := by
  have hz : (pre ++ ⟨#[46]⟩ : ByteArray).size = pre.size + 1 := by rw [ByteArray.size_append]; rfl
  have hl : (nmB nm).length = nm.size := Array.length_toList
  have hpl : (nmB pre).length = pre.size := Array.length_toList
  have e2 : nmB (pre ++ ⟨#[46]⟩) = nmB pre ++ [46] := by simp [nmB]
  have hlt : pre.size < (nmB nm).length := by omega
  have e3 : (nmB nm).take (pre.size + 1) = (nmB nm).take pre.size ++ [(nmB nm)[pre.size]] := List.take_succ_eq_append_getElem hlt
  have e4 : ((nmB nm).take pre.size).length = pre.size := by rw [List.length_take]; omega
  rw [hasP, decide_eq_true_eq, hz, List.getElem?_eq_getElem hlt, Option.some.injEq]
  constructor
  · rintro ⟨_, h1⟩
    have h2 := congrArg nmB h1
    rw [nmB_take, e2, e3] at h2
    obtain ⟨h3, h4⟩ := List.append_inj h2 (by rw [e4, hpl])
    injection h4 with h4
    exact ⟨nmB_inj (by rw [nmB_take]; exact h3), h4⟩
  · rintro ⟨h1, h2⟩
    refine ⟨h, nmB_inj ?_⟩
    have h3 := congrArg nmB h1
    rw [nmB_take] at h3
    rw [nmB_take, e2, e3, h3, h2]
set_option maxHeartbeats 4000000 in
theorem numberR_fn (pre nm : ByteArray) (hn : nm.size ≤ 1000) (hp : pre.size ≤ 1000) (w0 : World) : Fn Tryz.prog 75 #[.string pre, .string nm] w0 fun r w' => r = .int .i64 (numI (numG pre nm)) ∧ w' = w0 := by
  have e1 : ∀ x y : ByteArray, (x ++ y).size = x.size + y.size := fun x y => ByteArray.size_append
  have s1 : (⟨#[46]⟩ : ByteArray).size = 1 := rfl
  have hz : (pre ++ ⟨#[46]⟩ : ByteArray).size = pre.size + 1 := by rw [e1, s1]
  have hL := Sep.start Tryz.prog w0
  have hB := Nat.le_refl w0.heap.size
  refine Fn.mk Tryz.func75 rfl (by kernel_rfl) Tryz.ntmps75 rfl (by rw [Tryz.results75]) ?_
  by_cases h9 : nm.size ≠ pre.size + 9
  · have hg : numG pre nm = none := by rw [numG, if_neg (fun h => h9 h.2.1)]
    rw [hg]
    have h9' : ¬ ((nm.size : Int) = (pre.size : Int) + 9) := by omega
    repeat (first | (refine RunH ?_; intro w hL hB; try clear w) | (refine Both.mk ?_ ?_ <;> conv => whnf) | fail)
    exact ⟨rfl, rfl⟩
  replace h9 : nm.size = pre.size + 9 := by omega
  have h9' : (nm.size : Int) = (pre.size : Int) + 9 := by omega
  repeat (first | (refine RunH ?_; intro w hL hB; try clear w) | (refine Both.mk ?_ ?_ <;> conv => whnf) | fail)
  by_cases hpe : nm.extract 0 pre.size = pre
  case neg =>
    have hg : numG pre nm = none := by
      rw [numG, if_neg]
      rintro ⟨h1, _⟩
      exact hpe ((hasP_iff (by omega)).1 h1).1
    rw [hg]
    refine Br.no (by simpa using hpe) ?_
    conv => whnf
    repeat (first | (refine RunH ?_; intro w hL hB; try clear w) | (refine Both.mk ?_ ?_ <;> conv => whnf) | fail)
    exact ⟨rfl, rfl⟩
  refine Br.yes (by simpa using hpe) ?_
  conv => whnf
  repeat (first | (refine RunH ?_; intro w hL hB; try clear w) | (refine Both.mk ?_ ?_ <;> conv => whnf) | fail)
  intro c hc
  have hc : (nmB nm)[pre.size]? = some c := hc
  conv => whnf
  by_cases hc46 : c = 46
  case neg =>
    have hg : numG pre nm = none := by
      rw [numG, if_neg]
      rintro ⟨h1, _⟩
      have := ((hasP_iff (by omega)).1 h1).2
      rw [hc] at this
      injection this with this
      exact hc46 this
    rw [hg]
    have hc2 : ¬ ((c.toNat : Int) = 46) := fun h => hc46 (by apply UInt8.toNat_inj.1; show c.toNat = 46; omega)
    repeat (first | (refine RunH ?_; intro w hL hB; try clear w) | (refine Both.mk ?_ ?_ <;> conv => whnf) | fail)
    exact ⟨rfl, rfl⟩
  subst hc46
  have hP : hasP nm (pre ++ ⟨#[46]⟩) = true := (hasP_iff (by omega)).2 ⟨hpe, hc⟩
  have hll : (nmB nm).length = nm.size := Array.length_toList
  obtain ⟨D, hD⟩ : ∃ D, D = (nmB nm).drop (pre.size + 1) := ⟨_, rfl⟩
  have hDl : D.length = 8 := by rw [hD, List.length_drop]; omega
  have hg : numG pre nm = if D.all isDig = true then some (numL D) else none := by
    rw [numG, ← hD]
    by_cases hd : D.all isDig = true
    · rw [if_pos ⟨hP, h9, hd⟩, if_pos hd]
    · rw [if_neg (fun h => hd h.2.2), if_neg hd]
  rw [hg]
  have hDi : ∀ j, D[j]? = nm.data.toList[pre.size + 1 + j]? := fun j => by rw [hD, List.getElem?_drop]; rfl
  clear hg hP hc hD hpe
  repeat (first | (refine RunH ?_; intro w hL hB; try clear w) | (refine Both.mk ?_ ?_ <;> conv => whnf) | fail)
  refine V.loop (α := Nat) (fun j => [(0, .string pre), (1, .string nm), (5, .int .i64 (numL (D.take j) : Nat)), (6, .int .i64 ((pre.size + 1 + j : Nat) : Int))])
    (fun j w' => j ≤ 8 ∧ (D.take j).all isDig = true ∧ w' = w0) (fun j => 8 - j) 0 ⟨rfl, rfl, rfl, rfl, trivial⟩ ⟨by decide, rfl, rfl⟩ ?_
  rintro j w ⟨hj, hdj, hw⟩
  rw [hw]
  clear hw w
  dsimp only at *
  have hL := Sep.start Tryz.prog w0
  by_cases h8 : j < 8
  case neg =>
    obtain rfl : j = 8 := by omega
    rw [List.take_of_length_le (by omega)] at hdj ⊢
    rw [if_pos hdj]
    repeat (first | (refine RunH ?_; intro w hL hB; try clear w) | (refine Both.mk ?_ ?_ <;> conv => whnf) | fail)
    exact ⟨rfl, rfl⟩
  have hjl : j < D.length := by omega
  have htk : D.take (j + 1) = D.take j ++ [D[j]] := List.take_succ_eq_append_getElem hjl
  have hgj := hDi j
  rw [List.getElem?_eq_getElem hjl] at hgj
  have hnb := numL_lt (D.take j) hdj 0
  have hlt2 : (D.take j).length = j := by rw [List.length_take]; omega
  have hpw : 10 ^ j ≤ 10 ^ 8 := Nat.pow_le_pow_right (by decide) (by omega)
  rw [hlt2] at hnb
  generalize hcj : D[j] = c at *
  replace hnb : numL (D.take j) < 100000000 := by unfold numL; omega
  repeat (first | (refine RunH ?_; intro w hL hB; try clear w) | (refine Both.mk ?_ ?_ <;> conv => whnf) | fail)
  have e9 : ((pre.size + 1 + j : Nat) : Int).toNat = pre.size + 1 + j := by omega
  have same : ∀ c1, nm.data.toList[((pre.size + 1 + j : Nat) : Int).toNat]? = some c1 → c1 = c := fun c1 h => by
    rw [e9, ← hgj] at h
    injection h with h
    exact h.symm
  intro c1 hc1
  obtain rfl := same c1 hc1
  conv => whnf
  have bad : isDig c1 = false → (if D.all isDig = true then some (numL D) else none) = none := fun h => by
    rw [if_neg]
    intro hd
    have := List.all_eq_true.1 hd c1 (List.mem_of_getElem? (hDi j ▸ hgj.symm))
    rw [h] at this; cases this
  by_cases h1 : c1.toNat < 48
  · have h1' : (c1.toNat : Int) < 48 := by omega
    rw [bad (by simp [isDig]; omega)]
    repeat (first | (refine RunH ?_; intro w hL hB; try clear w) | (refine Both.mk ?_ ?_ <;> conv => whnf) | fail)
    exact ⟨rfl, rfl⟩
  have h1' : ¬ ((c1.toNat : Int) < 48) := by omega
  repeat (first | (refine RunH ?_; intro w hL hB; try clear w) | (refine Both.mk ?_ ?_ <;> conv => whnf) | fail)
  intro c2 hc2
  obtain rfl := same c2 hc2
  conv => whnf
  by_cases h2 : 57 < c2.toNat
  · have h2' : 57 < (c2.toNat : Int) := by omega
    rw [bad (by simp [isDig]; omega)]
    repeat (first | (refine RunH ?_; intro w hL hB; try clear w) | (refine Both.mk ?_ ?_ <;> conv => whnf) | fail)
    exact ⟨rfl, rfl⟩
  have h2' : ¬ (57 < (c2.toNat : Int)) := by omega
  have hdg : isDig c2 = true := by simp [isDig]; omega
  have hns := numL_snoc (D.take j) c2
  rw [← htk] at hns
  repeat (first | (refine RunH ?_; intro w hL hB; try clear w) | (refine Both.mk ?_ ?_ <;> conv => whnf) | fail)
  intro c3 hc3
  obtain rfl := same c3 hc3
  conv => whnf
  repeat (first | (refine RunH ?_; intro w hL hB; try clear w) | (refine Both.mk ?_ ?_ <;> conv => whnf) | fail)
  exact ⟨j + 1, ⟨rfl, rfl, vint (by rw [hns]; push_cast; omega), vint (by push_cast; omega), trivial⟩, ⟨by omega, by rw [htk, List.all_append, hdj]; simpa using hdg, rfl⟩, (by first | omega | (dsimp only; omega))⟩
end Go.Proofs.YtjafamiaahabgaaGreatDoor
namespace Go.Proofs.YtjafamiaahabgaaGreatDoor
open Go.RowKit Go.Lib
set_option linter.unusedVariables false
set_option linter.unusedSimpArgs false
set_option maxRecDepth 100000

theorem LgS.hok {B : Nat} {w0 w : World} {d l : Nat} {pre : ByteArray} {room : Nat} {S : List Fl} {G : List Wg} {af : Nat} {F : List Res} (h : LgS B w0 w d l pre room S G af F) : B ≤ w.heap.size := by
  obtain ⟨n, sg, _, _, hD⟩ := h.of
  exact hD.hB
theorem DkS.bigD {B : Nat} {w0 w : World} {b room : Nat} {S : List Fl} {F : List Res} (h : DkS B w0 w b room S F) (nm : ByteArray) : (fileD S nm).length ≤ 1073741824 := by
  obtain ⟨mo, fs, rfl, hok, _⟩ := h.of
  rw [fileD, getF_fl]
  cases hf : getF fs nm with
  | none => exact Nat.zero_le _
  | some f =>
    have := len_le hok hf
    show f.d.length ≤ _
    omega
theorem En_map (es : List En) (e : En) : (es ++ [e]).map En.res = es.map En.res ++ [e.res] := by simp
theorem own_shapeP {w : World} {base : Nat} {e : TypeId} {sz : Nat} {v : Value} {n : Nat} {xs : List Value} (h : w.ownsRow base e sz v n xs) (hn : 0 < n) : ∃ g cap, v = .slice (some ⟨g, 0, none⟩) n cap ∧ n ≤ cap := by
  rcases h.2 with ⟨_, rfl⟩ | ⟨g, cap, _, rfl, _, _, h1, _⟩
  · omega
  · exact ⟨g, cap, rfl, h1⟩
theorem entry_in {α : Type} (r b e i y l : α) (M Y : List α) : (r :: b :: e :: i :: y :: l :: (M ++ Y)).Perm (b :: e :: i :: y :: l :: ((M ++ [r]) ++ Y)) := by
  have h := (List.perm_middle (a := r) (l₁ := [b, e, i, y, l] ++ M) (l₂ := Y)).symm
  rw [List.append_assoc M [r] Y]
  exact h.trans (List.Perm.of_eq (by simp))
theorem perm_win {α : Type} (a b c e f : α) (M A Y Fr D : List α) : (a :: b :: c :: e :: f :: ((M ++ ((A ++ Y) ++ Fr)) ++ D)).Perm (A ++ (a :: b :: c :: e :: f :: ((M ++ (Y ++ Fr)) ++ D))) := by
  have h := List.perm_append_comm_assoc ([a, b, c, e, f] ++ M) A (Y ++ Fr ++ D)
  simpa using h
theorem perm_seg {α : Type} (a b c e l : α) (M A Y Fr D : List α) : (A ++ (a :: b :: c :: e :: l :: ((M ++ (Y ++ Fr)) ++ D))).Perm (l :: a :: b :: c :: e :: ((A ++ (Y ++ M) ++ Fr) ++ D)) := by
  have h1 : (A ++ (a :: b :: c :: e :: l :: ((M ++ (Y ++ Fr)) ++ D))).Perm (a :: b :: c :: e :: l :: (A ++ ((M ++ (Y ++ Fr)) ++ D))) := by
    have h := List.perm_append_comm_assoc A [a, b, c, e, l] ((M ++ (Y ++ Fr)) ++ D)
    simpa using h
  refine h1.trans ?_
  have h2 : (a :: b :: c :: e :: l :: (A ++ ((M ++ (Y ++ Fr)) ++ D))).Perm (l :: a :: b :: c :: e :: (A ++ ((M ++ (Y ++ Fr)) ++ D))) := List.perm_middle (l₁ := [a, b, c, e])
  refine h2.trans (((((List.Perm.cons _ ?_).cons _).cons _).cons _).cons _)
  have h3 := (List.perm_append_comm_assoc M Y (Fr ++ D)).append_left A
  simpa using h3
theorem perm_fin {α : Type} (l a b c : α) (M A Y Fr D : List α) : (l :: a :: b :: c :: ((A ++ (Y ++ M) ++ Fr) ++ D)).Perm (l :: ((A ++ (Y ++ (a :: b :: c :: M)) ++ Fr) ++ D)) := by
  refine List.Perm.cons _ ?_
  have h := List.perm_append_comm_assoc [a, b, c] (A ++ Y) (M ++ Fr ++ D)
  simpa using h
set_option maxHeartbeats 8000000 in
theorem logRead_fn {B d l room : Nat} {pre : ByteArray} {S : List Fl} {G : List Wg} {af : Nat} {F : List Res} (first : Nat) (hfi : first ≤ 99999999) (hp : 1 ≤ pre.size ∧ pre.size ≤ 55) {w0 w : World} (ht : TabW B w0) (hlen : G.length ≤ 1000000000) (haf : af ≤ 4000000000) (hG : LgS B w0 w d l pre room S G af F) :
    Fn Tryz.prog 28 #[.pointer (some ⟨l, 0, none⟩), .int .i64 (first : Int)] w fun r w' => r = .bool (readG pre ⟨G, af, S, true⟩ first).good ∧ LgS B w0 w' d l pre room (readG pre ⟨G, af, S, true⟩ first).S (readG pre ⟨G, af, S, true⟩ first).G (readG pre ⟨G, af, S, true⟩ first).af F := by
  obtain ⟨n, sg, rfl, hok, hD⟩ := hG.of
  clear hG
  rw [List.length_map] at hlen
  have hnm : (wnm pre first).size ≤ 1000000 := by rw [wnm_size hfi]; omega
  obtain ⟨dL, hL, hB, close⟩ := hD.open
  clear hD
  have hps : (ptrs sg).length = sg.length := by simp [ptrs]
  refine Fn.mk Tryz.func28 rfl (by kernel_rfl) Tryz.ntmps28 rfl (by rw [Tryz.results28]) ?_
  repeat (first | (refine RunH ?_; intro w hL hB; try clear w) | (refine Both.mk ?_ ?_ <;> conv => whnf) | fail)
  refine (name_fn first hfi (by omega) w (hL.hold _ (.head _)) (ht w hL.below)).mono fun r w ⟨hr, hw⟩ => ?_
  subst hr
  replace hL := hL.call hB (Turns.of_below hw)
  replace hB := Nat.le_trans hB hw.size
  have hsl : Sl w (n.val (ptrs sg)) (ptrs sg) := Wn.sl hok hL (fun R hR => by simp [logR]; exact .inr (.inl hR))
  obtain ⟨va, vc, hv⟩ := hsl.shape
  rw [hps] at hv
  obtain ⟨X, hX⟩ : ∃ X, X = (n.res (ptrs sg) ++ sg.flatMap Sg.res) ++ F := ⟨_, rfl⟩
  replace hL : Sep Tryz.prog B w0 w (.blk l [.pointer (some ⟨d, 0, none⟩), .string pre, .slice va sg.length vc, .int .i64 (af : Int)] 65 :: (X ++ dL)) := by
    rw [hX, ← hv]; exact hL
  have back : ∀ {w' : World} {S' : List Fl}, DkS B w0 w' d room S' (.blk l [.pointer (some ⟨d, 0, none⟩), .string pre, .slice va sg.length vc, .int .i64 (af : Int)] 65 :: X) → LgS B w0 w' d l pre room S' (sg.map Sg.wg) af F := fun h => ⟨n, sg, rfl, hok, by rw [hX, ← hv] at h; exact h⟩
  conv => whnf
  have fin : readG pre ⟨sg.map Sg.wg, af, S, true⟩ first = ⟨sg.map Sg.wg, af, delS S (wnm pre first), false⟩ → ∀ {w : World}, Sep Tryz.prog B w0 w (.blk l [.pointer (some ⟨d, 0, none⟩), .string pre, .slice va sg.length vc, .int .i64 (af : Int)] 65 :: (X ++ dL)) → B ≤ w.heap.size → True := fun _ _ _ _ => trivial
  by_cases h0 : first < 1
  · have hg : readG pre ⟨sg.map Sg.wg, af, S, true⟩ first = ⟨sg.map Sg.wg, af, delS S (wnm pre first), false⟩ := by rw [readG, if_pos (.inl h0)]
    rw [hg]
    repeat (first | (refine RunH ?_; intro w hL hB; try clear w) | (refine Both.mk ?_ ?_ <;> conv => whnf) | fail)
    refine (remove_fn (wnm pre first) hnm (close (F' := .blk l _ _ :: X) hL hB)).mono fun r w ⟨hr, hD⟩ => ?_
    subst hr
    conv => whnf
    repeat (first | (refine RunH ?_; intro w hL hB; try clear w) | (refine Both.mk ?_ ?_ <;> conv => whnf) | fail)
    exact ⟨rfl, back hD⟩
  by_cases h1 : 0 < sg.length ∧ first ≠ af
  · have hg : readG pre ⟨sg.map Sg.wg, af, S, true⟩ first = ⟨sg.map Sg.wg, af, delS S (wnm pre first), false⟩ := by
      have hne : sg.map Sg.wg ≠ [] := fun he => by
        rw [List.map_eq_nil_iff] at he
        rw [he] at h1
        exact absurd h1.1 (by decide)
      rw [readG, if_pos (.inr ⟨hne, h1.2⟩)]
    rw [hg]
    obtain ⟨h1, h2⟩ := h1
    have h3 : ¬ ((first : Int) = (af : Int)) := by omega
    repeat (first | (refine RunH ?_; intro w hL hB; try clear w) | (refine Both.mk ?_ ?_ <;> conv => whnf) | fail)
    refine (remove_fn (wnm pre first) hnm (close (F' := .blk l _ _ :: X) hL hB)).mono fun r w ⟨hr, hD⟩ => ?_
    subst hr
    conv => whnf
    repeat (first | (refine RunH ?_; intro w hL hB; try clear w) | (refine Both.mk ?_ ?_ <;> conv => whnf) | fail)
    exact ⟨rfl, back hD⟩
  have hg : readG pre ⟨sg.map Sg.wg, af, S, true⟩ first = if (rdW ((fileD S (wnm pre first)).length + 1) first (fileD S (wnm pre first))).2 = (fileD S (wnm pre first)).length then ⟨sg.map Sg.wg ++ [⟨first, (rdW ((fileD S (wnm pre first)).length + 1) first (fileD S (wnm pre first))).1, true⟩], first + (rdW ((fileD S (wnm pre first)).length + 1) first (fileD S (wnm pre first))).1.length, S, true⟩ else
      if (rdW ((fileD S (wnm pre first)).length + 1) first (fileD S (wnm pre first))).2 = 0 then ⟨sg.map Sg.wg, af, delS S (wnm pre first), false⟩ else
      ⟨sg.map Sg.wg ++ [⟨first, (rdW ((fileD S (wnm pre first)).length + 1) first (fileD S (wnm pre first))).1, true⟩], first + (rdW ((fileD S (wnm pre first)).length + 1) first (fileD S (wnm pre first))).1.length, cutS S (wnm pre first) ((rdW ((fileD S (wnm pre first)).length + 1) first (fileD S (wnm pre first))).2 : Int), false⟩ := by
    rw [readG, if_neg]
    rintro (h | ⟨h2, h3⟩)
    · exact h0 h
    · refine h1 ⟨?_, h3⟩
      rcases Nat.eq_zero_or_pos sg.length with h | h
      · exact absurd (by rw [List.eq_nil_of_length_eq_zero h]; rfl) h2
      · exact h
  rw [hg]
  clear hg fin
  refine V.seq ?_
  refine V.join (α := Unit) (fun _ => [(0, .pointer (some ⟨l, 0, none⟩)), (1, .int .i64 (first : Int)), (4, .bool false), (5, .string (wnm pre first)), (36, .bool false)])
    (fun _ w' => B ≤ w'.heap.size ∧ Sep Tryz.prog B w0 w' (.blk l [.pointer (some ⟨d, 0, none⟩), .string pre, .slice va sg.length vc, .int .i64 (af : Int)] 65 :: (X ++ dL))) ?_ ?_
  · by_cases h2 : 0 < sg.length
    · have h3 : (first : Int) = (af : Int) := by omega
      repeat (first | (refine RunH ?_; intro w hL hB; try clear w) | (refine Both.mk ?_ ?_ <;> conv => whnf) | fail)
      exact ⟨(), ⟨rfl, rfl, rfl, rfl, by rw [decide_eq_true h3]; rfl, trivial⟩, hB, hL⟩
    · repeat (first | (refine RunH ?_; intro w hL hB; try clear w) | (refine Both.mk ?_ ?_ <;> conv => whnf) | fail)
      exact ⟨(), ⟨rfl, rfl, rfl, rfl, rfl, trivial⟩, hB, hL⟩
  clear hL hB
  rintro _ w ⟨hB, hL⟩
  repeat (first | (refine RunH ?_; intro w hL hB; try clear w) | (refine Both.mk ?_ ?_ <;> conv => whnf) | fail)
  obtain ⟨bv0, hbv⟩ : ∃ x : List UInt8, x = fileD S (wnm pre first) := ⟨_, rfl⟩
  refine (read_fn (wnm pre first) hnm (close (F' := .blk l _ _ :: X) hL hB)).mono fun r w hr => ?_
  replace hr : ∃ u e, r = .tuple #[u, .int .i64 e] ∧ DkS B w0 w d room S (.row 5 1 u bv0.length (bv bv0) :: .blk l [.pointer (some ⟨d, 0, none⟩), .string pre, .slice va sg.length vc, .int .i64 (af : Int)] 65 :: X) := by
    rw [hbv, fileD]
    cases hg : getS S (wnm pre first) with
    | some f =>
      rw [hg] at hr
      obtain ⟨u, rfl, hD⟩ := hr
      exact ⟨u, 0, rfl, hD⟩
    | none =>
      rw [hg] at hr
      obtain ⟨rfl, hD⟩ := hr
      obtain ⟨dL, hL, hB, close⟩ := hD.open
      exact ⟨_, 7, rfl, close (F' := .row 5 1 (.slice none 0 0) 0 [] :: .blk l _ _ :: X) (hL.nilRow 5 1) hB⟩
  rw [← hbv]
  clear hL hB close
  obtain ⟨bu, be, rfl, hD⟩ := hr
  have hbl : bv0.length ≤ 1073741824 := hbv ▸ hD.bigD _
  obtain ⟨dL, hL, hB, close⟩ := hD.open
  clear hD
  obtain ⟨ba, bc, rfl⟩ := (show SlN w 1 bu bv0.length _ from hL.rowN (i := 0) rfl).shape
  conv => whnf
  repeat (first | (refine RunH ?_; intro w hL hB; try clear w) | (refine Both.mk ?_ ?_ <;> conv => whnf) | fail)
  (refine Nw.sep hL hB (fun sb w hL hB hsb => ?_); conv => whnf)
  replace hL : Sep Tryz.prog B w0 w (.blk sb [.int .i64 (first : Int), .slice none 0 0, .slice none 0 0, .bool true] 80 ::
      .row 5 1 (.slice ba bv0.length bc) bv0.length (bv bv0) :: .blk l [.pointer (some ⟨d, 0, none⟩), .string pre, .slice va sg.length vc, .int .i64 (af : Int)] 65 :: (X ++ dL)) := hL
  have hL1 := ((hL.nilC 3).nilC 23)
  refine V.seq ?_
  refine V.reg ttOk ?_
  conv => whnf
  refine V.seq ?_
  refine V.join (α := List En × Value × Value) (fun z => [(0, .pointer (some ⟨l, 0, none⟩)), (1, .int .i64 (first : Int)), (4, .bool false), (5, .string (wnm pre first)), (6, .slice ba bv0.length bc), (8, .pointer (some ⟨sb, 0, none⟩)), (9, .int .i64 (lenW first (z.1.map En.d) : Nat))])
    (fun z w' => B ≤ w'.heap.size ∧ (rdW (bv0.length + 1) first bv0).1 = z.1.map En.d ∧ Sep Tryz.prog B w0 w' (.blk sb [.int .i64 (first : Int), z.2.1, z.2.2, .bool true] 80 :: .rc 23 z.2.1 z.1.length (z.1.map En.v) :: .rc 3 z.2.2 z.1.length ((endsW 0 first (z.1.map En.d)).map iN) ::
      .row 5 1 (.slice ba bv0.length bc) bv0.length (bv bv0) :: .blk l [.pointer (some ⟨d, 0, none⟩), .string pre, .slice va sg.length vc, .int .i64 (af : Int)] 65 :: (z.1.map En.res ++ (X ++ dL)))) ?_ ?_
  · replace hL : Sep Tryz.prog B w0 w (.blk sb [.int .i64 (first : Int), .slice none 0 0, .slice none 0 0, .bool true] 80 :: .rc 23 (.slice none 0 0) 0 [] :: .rc 3 (.slice none 0 0) 0 [] ::
      .row 5 1 (.slice ba bv0.length bc) bv0.length (bv bv0) :: .blk l [.pointer (some ⟨d, 0, none⟩), .string pre, .slice va sg.length vc, .int .i64 (af : Int)] 65 :: (X ++ dL)) := hL1.perm (List.perm_middle (l₁ := [_, _]))
    clear hL1
    refine V.blk ?_
    refine V.loop (α := List En × Value × Value) (fun z => [(0, .pointer (some ⟨l, 0, none⟩)), (1, .int .i64 (first : Int)), (4, .bool false), (5, .string (wnm pre first)), (6, .slice ba bv0.length bc), (8, .pointer (some ⟨sb, 0, none⟩)), (9, .int .i64 (lenW first (z.1.map En.d) : Nat))])
      (fun z w' => (lenW first (z.1.map En.d) ≤ bv0.length ∧ ∃ fu, bv0.length - lenW first (z.1.map En.d) < fu ∧ (rdW (bv0.length + 1) first bv0).1 = z.1.map En.d ++ (rdW fu (first + z.1.length) (bv0.drop (lenW first (z.1.map En.d)))).1) ∧ B ≤ w'.heap.size ∧ Sep Tryz.prog B w0 w' (.blk sb [.int .i64 (first : Int), z.2.1, z.2.2, .bool true] 80 :: .rc 23 z.2.1 z.1.length (z.1.map En.v) :: .rc 3 z.2.2 z.1.length ((endsW 0 first (z.1.map En.d)).map iN) ::
      .row 5 1 (.slice ba bv0.length bc) bv0.length (bv bv0) :: .blk l [.pointer (some ⟨d, 0, none⟩), .string pre, .slice va sg.length vc, .int .i64 (af : Int)] 65 :: (z.1.map En.res ++ (X ++ dL))))
      (fun z => bv0.length - lenW first (z.1.map En.d)) ([], .slice none 0 0, .slice none 0 0) ⟨rfl, rfl, rfl, rfl, rfl, rfl, rfl, trivial⟩ ⟨⟨Nat.zero_le _, bv0.length + 1, by simp [lenW], by simp [lenW]⟩, hB, hL⟩ ?_
    clear hL hB
    rintro ⟨es, ev, xv⟩ w ⟨⟨hat, fu, hfu, hrd⟩, hB, hL⟩
    dsimp only at hat hfu hrd hL ⊢
    obtain ⟨at_, hate⟩ : ∃ a, a = lenW first (es.map En.d) := ⟨_, rfl⟩
    have hge := lenW_ge first (es.map En.d)
    rw [List.length_map] at hge
    rw [← hate] at hat hfu hrd hge ⊢
    obtain ⟨eva, evc, rfl⟩ := RowC.shape (show RowC w _ ev es.length _ from hL.at (i := 1) rfl)
    obtain ⟨xva, xvc, rfl⟩ := RowC.shape (show RowC w _ xv es.length _ from hL.at (i := 2) rfl)
    by_cases hlt : bv0.length ≤ at_
    · have hz : (rdW fu (first + es.length) (bv0.drop at_)).1 = [] := by
        rw [List.drop_of_length_le (by omega)]
        cases fu with
        | zero => rfl
        | succ f => simp [rdW]
      rw [hz, List.append_nil] at hrd
      repeat (first | (refine RunH ?_; intro w hL hB; try clear w) | (refine Both.mk ?_ ?_ <;> conv => whnf) | fail)
      exact ⟨(es, .slice eva es.length evc, .slice xva es.length xvc), ⟨rfl, rfl, rfl, rfl, rfl, rfl, by rw [← hate]; rfl, trivial⟩, hB, hrd, hL⟩
    obtain ⟨fu, rfl⟩ : ∃ k, fu = k + 1 := ⟨fu - 1, by omega⟩
    have hs := (show Sl w (.slice ba bv0.length bc) (bv bv0) from hL.row (i := 3) rfl)
    obtain ⟨bb, bo, rfl, _⟩ := hs.addr (by omega)
    obtain ⟨q1, q2, q3⟩ := hs.len
    repeat (first | (refine RunH ?_; intro w hL hB; try clear w) | (refine Both.mk ?_ ?_ <;> conv => whnf) | fail)
    intro o1 n1 c1 p1 p2 p3 p4
    conv => whnf
    repeat (first | (refine RunH ?_; intro w hL hB; try clear w) | (refine Both.mk ?_ ?_ <;> conv => whnf) | fail)
    have hwin : Go.Proofs.YtjafamiaahabgaaGreatDoor.win bv0 at_ (bv0.length - at_) = bv0.drop at_ := by
      rw [Go.Proofs.YtjafamiaahabgaaGreatDoor.win, List.take_of_length_le (by rw [List.length_drop]; exact Nat.le_refl _)]
    have hs2 := hs.win (lo := at_) (n := bv0.length - at_) (o' := o1) (n' := n1) (c' := c1) (by omega) (fun h => by have := p1 (by omega); omega) (by omega) (by omega)
    rw [hwin] at hs2
    have hdl : (bv0.drop at_).length = bv0.length - at_ := List.length_drop
    generalize hbd : bv0.drop at_ = bd at *
    obtain rfl : n1 = bv0.length - at_ := by omega
    refine (decode_fn _ bd w hs2).mono fun r w ⟨hr, hw⟩ => ?_
    by_cases hde : decE bd ≠ 0
    · have hno : hdW (first + es.length) bd = false := by simp [hdW, hde]
      have hz : (rdW (fu + 1) (first + es.length) bd).1 = [] := by rw [rdW, if_neg (by rw [hno]; simp)]
      rw [hz, List.append_nil] at hrd
      rw [decPost, if_neg hde] at hr
      subst hr
      replace hL := hL.call hB (Turns.of_below hw)
      replace hB := Nat.le_trans hB hw.size
      have hde2 : ¬ ((decE bd : Int) = 0) := by omega
      conv => whnf
      repeat (first | (refine RunH ?_; intro w hL hB; try clear w) | (refine Both.mk ?_ ?_ <;> conv => whnf) | fail)
      exact ⟨(es, .slice eva es.length evc, .slice xva es.length xvc), ⟨rfl, rfl, rfl, rfl, rfl, rfl, by rw [← hate]; rfl, trivial⟩, hB, hrd, hL⟩
    replace hde : decE bd = 0 := by omega
    rw [decPost, if_pos hde] at hr
    obtain ⟨hd1, hd2, u, rfl, hown⟩ := hr
    replace hL := hL.addRow hB hw (by rw [← hd2] at hown; exact hown)
    replace hB := Nat.le_trans hB hw.size
    clear hown hw
    generalize hpp : decP bd = pp at *
    have hul := rdU_ok pp
    conv => whnf
    repeat (first | (refine RunH ?_; intro w hL hB; try clear w) | (refine Both.mk ?_ ?_ <;> conv => whnf) | fail)
    refine (readUv_fn _ pp w (hL.row (i := 0) rfl)).mono fun r w1 ⟨hr, hw⟩ => ?_
    subst hr; rw [hw]; clear hw
    obtain ⟨ua, uc, hue⟩ := (show SlN w 1 u pp.length _ from hL.rowN (i := 0) rfl).shape
    subst hue
    have hpl : pp.length = decN bd := hd2
    have leave : hdW (first + es.length) bd = false → (rdW (bv0.length + 1) first bv0).1 = es.map En.d := fun hno => by
      rw [hrd, rdW, if_neg (by rw [hno]; simp), List.append_nil]
    by_cases he : (rdU pp).2.2 ≠ 0
    · have hrd2 := leave (by simp [hdW, hpp, he])
      have he2 : ¬ (((rdU pp).2.2 : Nat) : Int) = 0 := by omega
      replace hL := hL.tl
      conv => whnf
      repeat (first | (refine RunH ?_; intro w hL hB; try clear w) | (refine Both.mk ?_ ?_ <;> conv => whnf) | fail)
      exact ⟨(es, .slice eva es.length evc, .slice xva es.length xvc), ⟨rfl, rfl, rfl, rfl, rfl, rfl, by rw [← hate]; rfl, trivial⟩, hB, hrd2, hL⟩
    replace he : (rdU pp).2.2 = 0 := by omega
    have he2 : (((rdU pp).2.2 : Nat) : Int) = 0 := by omega
    conv => whnf
    repeat (first | (refine RunH ?_; intro w hL hB; try clear w) | (refine Both.mk ?_ ?_ <;> conv => whnf) | fail)
    refine (segNext_fn w (hL.hold _ (.tail _ (.head _))) (RowC.sl (show RowC w _ _ es.length _ from hL.at (i := 2) rfl)) (by omega) (by rw [List.length_map]; omega)).mono fun r w ⟨hr, hw⟩ => ?_
    subst hr
    replace hL := hL.call hB (Turns.of_below hw)
    replace hB := Nat.le_trans hB hw.size
    rw [List.length_map]
    by_cases hnu : (rdU pp).1 ≠ first + es.length
    · have hrd2 := leave (by simp [hdW, hpp, hnu])
      have hnu2 : ¬ (((rdU pp).1 : Nat) : Int) = ((first + es.length : Nat) : Int) := by omega
      replace hL := hL.tl
      conv => whnf
      repeat (first | (refine RunH ?_; intro w hL hB; try clear w) | (refine Both.mk ?_ ?_ <;> conv => whnf) | fail)
      exact ⟨(es, .slice eva es.length evc, .slice xva es.length xvc), ⟨rfl, rfl, rfl, rfl, rfl, rfl, by rw [← hate]; rfl, trivial⟩, hB, hrd2, hL⟩
    replace hnu : (rdU pp).1 = first + es.length := by omega
    have hnu2 : (((rdU pp).1 : Nat) : Int) = ((first + es.length : Nat) : Int) := by omega
    have hhd : hdW (first + es.length) bd = true := by simp [hdW, hpp, he, hnu, hde]
    have hhl := hdW_len hhd
    have hxd : hdX bd = pp.drop (rdU pp).2.1 := by rw [hdX, hpp]
    rw [hpp] at hhl
    have hpos : 0 < (rdU pp).2.1 := hul.2.2.2 he
    obtain ⟨ug, ucap, hug, hcap⟩ := own_shapeP (hL.ownR (i := 0) rfl) (by omega)
    injection hug with hug1 hug2 hug3
    subst hug1; subst hug3
    obtain ⟨k1, k2, k3⟩ := (show Sl w (.slice (some ⟨ug, 0, none⟩) pp.length uc) (bv pp) from hL.row (i := 0) rfl).len
    have hxl : (pp.drop (rdU pp).2.1).length = pp.length - (rdU pp).2.1 := List.length_drop
    conv => whnf
    repeat (first | (refine RunH ?_; intro w hL hB; try clear w) | (refine Both.mk ?_ ?_ <;> conv => whnf) | fail)
    have hlen2 : ∀ x, lenW first ((es ++ [(⟨x, pp.drop (rdU pp).2.1⟩ : En)]).map En.d) = at_ + (8 + decN bd) := fun x => by
      rw [List.map_append, List.map_singleton, lenW_snoc, List.length_map, ← hate, ← hxd, ← hhl.1]
    have fin : ∀ {w : World} {o2 n2 c2 : Nat} {v1 v2 : Value} {R1 R2 : Res}, (((rdU pp).2.1 : Int) < uc → (o2 : Int) = 0 + (rdU pp).2.1 * 1) → (n2 : Int) = pp.length - (rdU pp).2.1 → (c2 : Int) = uc - (rdU pp).2.1 → B ≤ w.heap.size →
      Sep Tryz.prog B w0 w (R1 :: R2 :: .row 5 1 (.slice (some ⟨ug, 0, none⟩) pp.length uc) pp.length (bv pp) :: .blk sb [.int .i64 (first : Int), v1, v2, .bool true] 80 :: .rc 23 v1 (es.length + 1) (es.map En.v ++ [.slice (some ⟨ug, o2, none⟩) n2 c2]) :: .rc 3 v2 (es.length + 1) ((endsW 0 first (es.map En.d)).map iN ++ [.int .i64 ((at_ : Int) + ((8 + decN bd : Nat) : Int))]) ::
        .row 5 1 (.slice (some ⟨bb, bo, none⟩) bv0.length bc) bv0.length (bv bv0) :: .blk l [.pointer (some ⟨d, 0, none⟩), .string pre, .slice va sg.length vc, .int .i64 (af : Int)] 65 :: (es.map En.res ++ (X ++ dL))) →
      (lenW first ((es ++ [(⟨.slice (some ⟨ug, o2, none⟩) n2 c2, pp.drop (rdU pp).2.1⟩ : En)]).map En.d) ≤ bv0.length ∧ ∃ fu, bv0.length - lenW first ((es ++ [(⟨.slice (some ⟨ug, o2, none⟩) n2 c2, pp.drop (rdU pp).2.1⟩ : En)]).map En.d) < fu ∧ (rdW (bv0.length + 1) first bv0).1 = (es ++ [(⟨.slice (some ⟨ug, o2, none⟩) n2 c2, pp.drop (rdU pp).2.1⟩ : En)]).map En.d ++ (rdW fu (first + (es ++ [(⟨.slice (some ⟨ug, o2, none⟩) n2 c2, pp.drop (rdU pp).2.1⟩ : En)]).length) (bv0.drop (lenW first ((es ++ [(⟨.slice (some ⟨ug, o2, none⟩) n2 c2, pp.drop (rdU pp).2.1⟩ : En)]).map En.d)))).1) ∧ B ≤ w.heap.size ∧
      Sep Tryz.prog B w0 w (.blk sb [.int .i64 (first : Int), v1, v2, .bool true] 80 :: .rc 23 v1 (es ++ [(⟨.slice (some ⟨ug, o2, none⟩) n2 c2, pp.drop (rdU pp).2.1⟩ : En)]).length ((es ++ [(⟨.slice (some ⟨ug, o2, none⟩) n2 c2, pp.drop (rdU pp).2.1⟩ : En)]).map En.v) :: .rc 3 v2 (es ++ [(⟨.slice (some ⟨ug, o2, none⟩) n2 c2, pp.drop (rdU pp).2.1⟩ : En)]).length ((endsW 0 first ((es ++ [(⟨.slice (some ⟨ug, o2, none⟩) n2 c2, pp.drop (rdU pp).2.1⟩ : En)]).map En.d)).map iN) ::
        .row 5 1 (.slice (some ⟨bb, bo, none⟩) bv0.length bc) bv0.length (bv bv0) :: .blk l [.pointer (some ⟨d, 0, none⟩), .string pre, .slice va sg.length vc, .int .i64 (af : Int)] 65 :: ((es ++ [(⟨.slice (some ⟨ug, o2, none⟩) n2 c2, pp.drop (rdU pp).2.1⟩ : En)]).map En.res ++ (X ++ dL))) := by
      intro w o2 n2 c2 v1 v2 R1 R2 r1 r3 r4 hB hL
      have hL := hL.tl.tl
      have hsx : Sl w (.slice (some ⟨ug, o2, none⟩) n2 c2) (bv (pp.drop (rdU pp).2.1)) := by
        have := (show Sl w (.slice (some ⟨ug, 0, none⟩) pp.length uc) (bv pp) from hL.row (i := 0) rfl).win (lo := (rdU pp).2.1) (n := pp.length - (rdU pp).2.1) (o' := o2) (n' := n2) (c' := c2) (by omega) (fun h => by have := r1 (by omega); omega) (by omega) (by omega)
        rw [Go.Proofs.YtjafamiaahabgaaGreatDoor.win, List.take_of_length_le (by rw [List.length_drop]; exact Nat.le_refl _)] at this
        exact this
      have hlt := Res.lt (hL.hold _ (.head _)) ug (by simp [Res.blocks, Value.ownBlock, rowB])
      have hL := (hL.says (R' := .ro (.slice (some ⟨ug, o2, none⟩) n2 c2) (bv (pp.drop (rdU pp).2.1))) ⟨hsx, fun b hb => by injection hb with hb; subst hb; exact hlt⟩ rfl).perm (entry_in _ _ _ _ _ _ _ _)
      refine ⟨⟨by rw [hlen2]; omega, fu, by rw [hlen2]; omega, ?_⟩, hB, ?_⟩
      · rw [hlen2, hrd, rdW, if_pos ⟨by intro h0; rw [h0] at hdl; simp at hdl; omega, hhd⟩, ← hbd, List.drop_drop, hbd, ← hhl.1, hxd]
        simp [Nat.add_assoc]
      · rw [List.map_append, List.map_append, List.map_append, List.map_singleton, List.map_singleton, List.map_singleton, endsW_snoc, List.map_append, List.map_singleton, List.length_append, List.length_singleton, List.length_map, ← hate, ← hxd, ← hhl.1]
        have e1 : iN (0 + at_ + (8 + decN bd)) = .int .i64 ((at_ : Int) + ((8 + decN bd : Nat) : Int)) := by rw [iN]; congr 1; push_cast; omega
        rw [e1, hxd]
        exact hL
    refine V.tree ttOk (fun _ => True) (.q 0 (.q 1 (.q 2 (.q 3 (.q 4 (.q 6 (.q 7 (.q 8 (.q 11 (.q 12 (.q 13 (.q 15 (.alt 5 (.alt 9 (.alt 10 (.alt 14 (.alt 16 (.alt 17 (.q 18 (.q 19 (.alt 20 (.q 21 (.q 22 (.alt 23 .nil .stop))) .stop))) .stop) .stop) (.alt 16 (.alt 14 (.alt 17 (.q 18 (.q 19 (.alt 20 (.q 21 (.q 22 (.alt 23 .nil .stop))) .stop))) .stop) .stop) .stop)) (.alt 14 (.alt 10 (.alt 16 (.alt 17 (.q 18 (.q 19 (.alt 20 (.q 21 (.q 22 (.alt 23 .nil .stop))) .stop))) .stop) .stop) (.alt 16 (.alt 10 (.alt 17 (.q 18 (.q 19 (.alt 20 (.q 21 (.q 22 (.alt 23 .nil .stop))) .stop))) .stop) .stop) .stop)) (.alt 16 (.alt 10 (.alt 14 (.alt 17 (.q 18 (.q 19 (.alt 20 (.q 21 (.q 22 (.alt 23 .nil .stop))) .stop))) .stop) .stop) (.alt 14 (.alt 10 (.alt 17 (.q 18 (.q 19 (.alt 20 (.q 21 (.q 22 (.alt 23 .nil .stop))) .stop))) .stop) .stop) .stop)) .stop))) (.alt 14 (.alt 9 (.alt 10 (.alt 16 (.alt 17 (.q 18 (.q 19 (.alt 20 (.q 21 (.q 22 (.alt 23 .nil .stop))) .stop))) .stop) .stop) (.alt 16 (.alt 10 (.alt 17 (.q 18 (.q 19 (.alt 20 (.q 21 (.q 22 (.alt 23 .nil .stop))) .stop))) .stop) .stop) .stop)) (.alt 16 (.alt 9 (.alt 10 (.alt 17 (.q 18 (.q 19 (.alt 20 (.q 21 (.q 22 (.alt 23 .nil .stop))) .stop))) .stop) .stop) .stop) .stop)) (.alt 16 (.alt 9 (.alt 10 (.alt 14 (.alt 17 (.q 18 (.q 19 (.alt 20 (.q 21 (.q 22 (.alt 23 .nil .stop))) .stop))) .stop) .stop) (.alt 14 (.alt 10 (.alt 17 (.q 18 (.q 19 (.alt 20 (.q 21 (.q 22 (.alt 23 .nil .stop))) .stop))) .stop) .stop) .stop)) (.alt 14 (.alt 9 (.alt 10 (.alt 17 (.q 18 (.q 19 (.alt 20 (.q 21 (.q 22 (.alt 23 .nil .stop))) .stop))) .stop) .stop) .stop) .stop)) .stop))) (.alt 9 (.alt 5 (.alt 10 (.alt 14 (.alt 16 (.alt 17 (.q 18 (.q 19 (.alt 20 (.q 21 (.q 22 (.alt 23 .nil .stop))) .stop))) .stop) .stop) (.alt 16 (.alt 14 (.alt 17 (.q 18 (.q 19 (.alt 20 (.q 21 (.q 22 (.alt 23 .nil .stop))) .stop))) .stop) .stop) .stop)) (.alt 14 (.alt 10 (.alt 16 (.alt 17 (.q 18 (.q 19 (.alt 20 (.q 21 (.q 22 (.alt 23 .nil .stop))) .stop))) .stop) .stop) (.alt 16 (.alt 10 (.alt 17 (.q 18 (.q 19 (.alt 20 (.q 21 (.q 22 (.alt 23 .nil .stop))) .stop))) .stop) .stop) .stop)) (.alt 16 (.alt 10 (.alt 14 (.alt 17 (.q 18 (.q 19 (.alt 20 (.q 21 (.q 22 (.alt 23 .nil .stop))) .stop))) .stop) .stop) (.alt 14 (.alt 10 (.alt 17 (.q 18 (.q 19 (.alt 20 (.q 21 (.q 22 (.alt 23 .nil .stop))) .stop))) .stop) .stop) .stop)) .stop))) (.alt 14 (.alt 5 (.alt 10 (.alt 16 (.alt 17 (.q 18 (.q 19 (.alt 20 (.q 21 (.q 22 (.alt 23 .nil .stop))) .stop))) .stop) .stop) (.alt 16 (.alt 10 (.alt 17 (.q 18 (.q 19 (.alt 20 (.q 21 (.q 22 (.alt 23 .nil .stop))) .stop))) .stop) .stop) .stop)) (.alt 16 (.alt 5 (.alt 10 (.alt 17 (.q 18 (.q 19 (.alt 20 (.q 21 (.q 22 (.alt 23 .nil .stop))) .stop))) .stop) .stop) .stop) .stop)) (.alt 16 (.alt 5 (.alt 10 (.alt 14 (.alt 17 (.q 18 (.q 19 (.alt 20 (.q 21 (.q 22 (.alt 23 .nil .stop))) .stop))) .stop) .stop) (.alt 14 (.alt 10 (.alt 17 (.q 18 (.q 19 (.alt 20 (.q 21 (.q 22 (.alt 23 .nil .stop))) .stop))) .stop) .stop) .stop)) (.alt 14 (.alt 5 (.alt 10 (.alt 17 (.q 18 (.q 19 (.alt 20 (.q 21 (.q 22 (.alt 23 .nil .stop))) .stop))) .stop) .stop) .stop) .stop)) .stop))) (.alt 14 (.alt 5 (.alt 9 (.alt 10 (.alt 16 (.alt 17 (.q 18 (.q 19 (.alt 20 (.q 21 (.q 22 (.alt 23 .nil .stop))) .stop))) .stop) .stop) (.alt 16 (.alt 10 (.alt 17 (.q 18 (.q 19 (.alt 20 (.q 21 (.q 22 (.alt 23 .nil .stop))) .stop))) .stop) .stop) .stop)) (.alt 16 (.alt 9 (.alt 10 (.alt 17 (.q 18 (.q 19 (.alt 20 (.q 21 (.q 22 (.alt 23 .nil .stop))) .stop))) .stop) .stop) .stop) .stop)) (.alt 9 (.alt 5 (.alt 10 (.alt 16 (.alt 17 (.q 18 (.q 19 (.alt 20 (.q 21 (.q 22 (.alt 23 .nil .stop))) .stop))) .stop) .stop) (.alt 16 (.alt 10 (.alt 17 (.q 18 (.q 19 (.alt 20 (.q 21 (.q 22 (.alt 23 .nil .stop))) .stop))) .stop) .stop) .stop)) (.alt 16 (.alt 5 (.alt 10 (.alt 17 (.q 18 (.q 19 (.alt 20 (.q 21 (.q 22 (.alt 23 .nil .stop))) .stop))) .stop) .stop) .stop) .stop)) (.alt 16 (.alt 5 (.alt 9 (.alt 10 (.alt 17 (.q 18 (.q 19 (.alt 20 (.q 21 (.q 22 (.alt 23 .nil .stop))) .stop))) .stop) .stop) .stop) (.alt 9 (.alt 5 (.alt 10 (.alt 17 (.q 18 (.q 19 (.alt 20 (.q 21 (.q 22 (.alt 23 .nil .stop))) .stop))) .stop) .stop) .stop) .stop)) .stop))) (.alt 16 (.alt 5 (.alt 9 (.alt 10 (.alt 14 (.alt 17 (.q 18 (.q 19 (.alt 20 (.q 21 (.q 22 (.alt 23 .nil .stop))) .stop))) .stop) .stop) (.alt 14 (.alt 10 (.alt 17 (.q 18 (.q 19 (.alt 20 (.q 21 (.q 22 (.alt 23 .nil .stop))) .stop))) .stop) .stop) .stop)) (.alt 14 (.alt 9 (.alt 10 (.alt 17 (.q 18 (.q 19 (.alt 20 (.q 21 (.q 22 (.alt 23 .nil .stop))) .stop))) .stop) .stop) .stop) .stop)) (.alt 9 (.alt 5 (.alt 10 (.alt 14 (.alt 17 (.q 18 (.q 19 (.alt 20 (.q 21 (.q 22 (.alt 23 .nil .stop))) .stop))) .stop) .stop) (.alt 14 (.alt 10 (.alt 17 (.q 18 (.q 19 (.alt 20 (.q 21 (.q 22 (.alt 23 .nil .stop))) .stop))) .stop) .stop) .stop)) (.alt 14 (.alt 5 (.alt 10 (.alt 17 (.q 18 (.q 19 (.alt 20 (.q 21 (.q 22 (.alt 23 .nil .stop))) .stop))) .stop) .stop) .stop) .stop)) (.alt 14 (.alt 5 (.alt 9 (.alt 10 (.alt 17 (.q 18 (.q 19 (.alt 20 (.q 21 (.q 22 (.alt 23 .nil .stop))) .stop))) .stop) .stop) .stop) (.alt 9 (.alt 5 (.alt 10 (.alt 17 (.q 18 (.q 19 (.alt 20 (.q 21 (.q 22 (.alt 23 .nil .stop))) .stop))) .stop) .stop) .stop) .stop)) .stop))) .stop)))))))))))))))) mixed (by decide +kernel) trivial ?_
    replace hL := hL.drew
    conv => whnf
    repeat' (first | (refine RunH ?_; intro w hL hB; try clear w) | (refine Br.dec (fun hbr => ?_) (fun hbr => ?_) <;> conv => whnf) | (refine Br.mk (fun hbr => ?_) (fun hbr => ?_) <;> conv => whnf) | (refine Both.mk ?_ ?_ <;> conv => whnf) | (intro o2 n2 c2 r1 r2 r3 r4; conv => whnf) | (refine And.intro trivial ?_; conv => whnf) | (refine Rv.buildS (len := 1) ttOk hL tl22 tl23 rfl rfl (by intro u hu; simp only [List.mem_singleton] at hu; subst hu; rfl) (by decide) (by decide) hB (fun bo1 w hL hB => ?_); conv => whnf) | (refine Rv.buildS (len := 1) ttOk hL tl78 tl3 rfl rfl (by intro u hu; simp only [List.mem_singleton] at hu; subst hu; rfl) (by decide) (by decide) hB (fun bo1 w hL hB => ?_); conv => whnf) | (refine Rv.appendC ttOk hL tl22 tl23 rfl 3 rfl (hL.rowN (i := 0) rfl) (by intro u hu; rw [List.mem_singleton.1 hu]; rfl) (by simp only [maxLen]; omega) (by omega) hB (fun v9 w hL hB => ?_); dsimp only [List.set] at hL; obtain ⟨va9, vc9, rfl⟩ := RowC.shape (hL.at (i := 3) rfl); conv => whnf) | (refine Rv.appendC ttOk hL tl22 tl23 rfl 4 rfl (hL.rowN (i := 0) rfl) (by intro u hu; rw [List.mem_singleton.1 hu]; rfl) (by simp only [maxLen]; omega) (by omega) hB (fun v9 w hL hB => ?_); dsimp only [List.set] at hL; obtain ⟨va9, vc9, rfl⟩ := RowC.shape (hL.at (i := 4) rfl); conv => whnf) | (refine Rv.appendC ttOk hL tl22 tl23 rfl 4 rfl (hL.rowN (i := 1) rfl) (by intro u hu; rw [List.mem_singleton.1 hu]; rfl) (by simp only [maxLen]; omega) (by omega) hB (fun v9 w hL hB => ?_); dsimp only [List.set] at hL; obtain ⟨va9, vc9, rfl⟩ := RowC.shape (hL.at (i := 4) rfl); conv => whnf) | (refine Rv.appendC ttOk hL tl78 tl3 rfl 4 rfl (hL.rowN (i := 0) rfl) (by intro u hu; rw [List.mem_singleton.1 hu]; rfl) (by simp only [maxLen]; omega) (by omega) hB (fun v9 w hL hB => ?_); dsimp only [List.set] at hL; obtain ⟨va9, vc9, rfl⟩ := RowC.shape (hL.at (i := 4) rfl); conv => whnf) | (refine Rv.appendC ttOk hL tl78 tl3 rfl 5 rfl (hL.rowN (i := 0) rfl) (by intro u hu; rw [List.mem_singleton.1 hu]; rfl) (by simp only [maxLen]; omega) (by omega) hB (fun v9 w hL hB => ?_); dsimp only [List.set] at hL; obtain ⟨va9, vc9, rfl⟩ := RowC.shape (hL.at (i := 5) rfl); conv => whnf) | (refine Rv.appendC ttOk hL tl78 tl3 rfl 5 rfl (hL.rowN (i := 1) rfl) (by intro u hu; rw [List.mem_singleton.1 hu]; rfl) (by simp only [maxLen]; omega) (by omega) hB (fun v9 w hL hB => ?_); dsimp only [List.set] at hL; obtain ⟨va9, vc9, rfl⟩ := RowC.shape (hL.at (i := 5) rfl); conv => whnf) | fail)
    all_goals
      have hfin := fin (by assumption) (by assumption) (by assumption) hB hL
      exact ⟨(es ++ [⟨_, pp.drop (rdU pp).2.1⟩], _, _), ⟨rfl, rfl, rfl, rfl, rfl, rfl, vint (by rw [hlen2]; push_cast; omega), trivial⟩, hfin, by dsimp only; rw [hlen2, ← hate]; omega⟩
  clear hL hB hL1
  rintro ⟨es, ev, xv⟩ w ⟨hB, hrd, hL⟩
  dsimp only at hrd hL ⊢
  have hrl := rdW_len (bv0.length + 1) first bv0
  rw [hrd] at hrl
  have hesl : 9 * es.length ≤ lenW first (es.map En.d) := by have := lenW_ge first (es.map En.d); rwa [List.length_map] at this
  obtain ⟨hr1, hr2⟩ := hrl
  have hrl : lenW first (es.map En.d) ≤ bv0.length := hr2 ▸ hr1
  clear hr1
  rw [hr2, hrd, List.length_map]
  clear hr2
  generalize hat : lenW first (es.map En.d) = at_ at *
  obtain ⟨eva, evc, rfl⟩ := RowC.shape (show RowC w _ ev es.length _ from hL.at (i := 1) rfl)
  obtain ⟨xva, xvc, rfl⟩ := RowC.shape (show RowC w _ xv es.length _ from hL.at (i := 2) rfl)
  refine V.seq ?_
  refine V.reg ttOk ?_
  conv => whnf
  obtain ⟨good, hgood⟩ : ∃ g : Bool, g = decide (at_ = bv0.length) := ⟨_, rfl⟩
  have hgi : decide ((at_ : Int) = (bv0.length : Int)) = good := by rw [hgood]; exact decide_eq_decide.2 (by omega)
  rw [hgi]
  have hnd : DkS B w0 w d room S (.blk l [.pointer (some ⟨d, 0, none⟩), .string pre, .slice va sg.length vc, .int .i64 (af : Int)] 65 :: X) := by
    refine close (F' := .blk l _ _ :: X) (hL.sub ?_) hB
    exact (.cons _ (.cons _ (.cons _ (.cons _ (.cons_cons _ (List.sublist_append_right _ _))))))
  by_cases hbad : good = false ∧ at_ = 0
  · obtain ⟨rfl, rfl⟩ := hbad
    have hne : ¬ (0 = bv0.length) := by simpa using hgood.symm
    rw [if_neg hne, if_pos rfl]
    repeat (first | (refine RunH ?_; intro w hL hB; try clear w) | (refine Both.mk ?_ ?_ <;> conv => whnf) | fail)
    refine (remove_fn (wnm pre first) hnm hnd).mono fun r w ⟨hr, hD⟩ => ?_
    subst hr
    conv => whnf
    repeat (first | (refine RunH ?_; intro w hL hB; try clear w) | (refine Both.mk ?_ ?_ <;> conv => whnf) | fail)
    exact ⟨rfl, back hD⟩
  refine V.seq ?_
  refine V.join (α := Unit) (fun _ => [(0, .pointer (some ⟨l, 0, none⟩)), (1, .int .i64 (first : Int)), (4, .bool false), (5, .string (wnm pre first)), (8, .pointer (some ⟨sb, 0, none⟩)), (9, .int .i64 (at_ : Int)), (15, .bool good)])
    (fun _ w' => w' = w) ?_ ?_
  · cases good with
    | true =>
      repeat (first | (refine RunH ?_; intro w hL hB; try clear w) | (refine Both.mk ?_ ?_ <;> conv => whnf) | fail)
      exact ⟨(), ⟨rfl, rfl, rfl, rfl, rfl, rfl, rfl, trivial⟩, rfl⟩
    | false =>
      have h9 : ¬ ((at_ : Int) = 0) := by
        intro h
        exact hbad ⟨rfl, by omega⟩
      repeat (first | (refine RunH ?_; intro w hL hB; try clear w) | (refine Both.mk ?_ ?_ <;> conv => whnf) | fail)
      exact ⟨(), ⟨rfl, rfl, rfl, rfl, rfl, rfl, rfl, trivial⟩, rfl⟩
  rintro _ w1 hw1
  rw [hw1]
  clear hw1 w1 hnd
  have hX2 : (es.map En.res ++ (X ++ dL)) = (es.map En.res ++ X) ++ dL := (List.append_assoc _ _ _).symm
  rw [hX2] at hL
  refine V.seq ?_
  refine V.join (α := Unit) (fun _ => [(0, .pointer (some ⟨l, 0, none⟩)), (1, .int .i64 (first : Int)), (4, .bool false), (5, .string (wnm pre first)), (8, .pointer (some ⟨sb, 0, none⟩)), (9, .int .i64 (at_ : Int)), (15, .bool good)])
    (fun _ w' => DkS B w0 w' d room (if good then S else cutS S (wnm pre first) (at_ : Int)) (.blk sb [.int .i64 (first : Int), .slice eva es.length evc, .slice xva es.length xvc, .bool true] 80 :: .rc 23 (.slice eva es.length evc) es.length (es.map En.v) :: .rc 3 (.slice xva es.length xvc) es.length ((endsW 0 first (es.map En.d)).map iN) ::
      .blk l [.pointer (some ⟨d, 0, none⟩), .string pre, .slice va sg.length vc, .int .i64 (af : Int)] 65 :: (es.map En.res ++ X))) ?_ ?_
  · have hnd := close (F' := .blk sb _ _ :: .rc _ _ _ _ :: .rc _ _ _ _ :: .blk l _ _ :: (es.map En.res ++ X)) (hL.pop 3) hB
    cases good with
    | true =>
      repeat (first | (refine RunH ?_; intro w hL hB; try clear w) | (refine Both.mk ?_ ?_ <;> conv => whnf) | fail)
      exact ⟨(), ⟨rfl, rfl, rfl, rfl, rfl, rfl, rfl, trivial⟩, hnd⟩
    | false =>
      repeat (first | (refine RunH ?_; intro w hL hB; try clear w) | (refine Both.mk ?_ ?_ <;> conv => whnf) | fail)
      refine (cut_fn (wnm pre first) hnm (at_ : Int) hnd).mono fun r w ⟨hr, hD⟩ => ?_
      subst hr
      conv => whnf
      repeat (first | (refine RunH ?_; intro w hL hB; try clear w) | (refine Both.mk ?_ ?_ <;> conv => whnf) | fail)
      exact ⟨(), ⟨rfl, rfl, rfl, rfl, rfl, rfl, rfl, trivial⟩, hD⟩
  clear hL hB close
  rintro _ w hD
  have hres : (if at_ = bv0.length then (⟨sg.map Sg.wg ++ [⟨first, es.map En.d, true⟩], first + es.length, S, true⟩ : Ost) else if at_ = 0 then ⟨sg.map Sg.wg, af, delS S (wnm pre first), false⟩ else ⟨sg.map Sg.wg ++ [⟨first, es.map En.d, true⟩], first + es.length, cutS S (wnm pre first) (at_ : Int), false⟩) = ⟨sg.map Sg.wg ++ [⟨first, es.map En.d, true⟩], first + es.length, if good then S else cutS S (wnm pre first) (at_ : Int), good⟩ := by
    by_cases h : at_ = bv0.length
    · rw [if_pos h, hgood, decide_eq_true h]; rfl
    · rw [if_neg h, hgood, decide_eq_false h, if_neg (fun h0 => hbad ⟨by rw [hgood, decide_eq_false h], h0⟩)]; rfl
  rw [hres]
  obtain ⟨dL, hL, hB, close⟩ := hD.open
  clear hD
  conv => whnf
  repeat (first | (refine RunH ?_; intro w hL hB; try clear w) | (refine Both.mk ?_ ?_ <;> conv => whnf) | fail)
  refine Rv.buildS (len := 1) ttOk hL tl63 tl75 rfl rfl (by intro u hu; simp only [List.mem_singleton] at hu; subst hu; rfl) (by decide) (by decide) hB fun bo1 w hL hB => ?_
  conv => whnf
  repeat (first | (refine RunH ?_; intro w hL hB; try clear w) | (refine Both.mk ?_ ?_ <;> conv => whnf) | fail)
  have hsn : SlN w 1 (.slice (some ⟨bo1, 0, none⟩) 1 1) 1 [.pointer (some ⟨sb, 0, none⟩)] := hL.rowN (i := 0) rfl
  refine Eq.mp (congrArg (fun v => Rv _ (Builtin.append_ _ _ #[v, _]) _ _) hv) ?_
  rw [hX] at hL
  refine Rv.appendW hL (perm_win _ _ _ _ _ _ _ _ _ _) hok (by rw [hps]; omega) hsn rfl hB fun n2 w hok2 hL hB => ?_
  obtain ⟨va2, vc2, hv2⟩ := (Wn.sl hok2 hL (fun R hR => List.mem_append_left _ hR)).shape
  replace hL := hL.perm (perm_seg _ _ _ _ _ _ _ _ _ _)
  rw [hv2]
  conv => whnf
  repeat (first | (refine RunH ?_; intro w hL hB; try clear w) | (refine Both.mk ?_ ?_ <;> conv => whnf) | fail)
  refine (segNext_fn w (hL.hold _ (.tail _ (.tail _ (.head _)))) (RowC.sl (show RowC w _ _ es.length _ from hL.at (i := 3) rfl)) (by omega) (by rw [List.length_map]; omega)).mono fun r w ⟨hr, hw⟩ => ?_
  subst hr
  replace hL := hL.call hB (Turns.of_below hw)
  replace hB := Nat.le_trans hB hw.size
  rw [List.length_map]
  conv => whnf
  repeat (first | (refine RunH ?_; intro w hL hB; try clear w) | (refine Both.mk ?_ ?_ <;> conv => whnf) | fail)
  refine ⟨rfl, ⟨n2, sg ++ [⟨sb, first, .slice eva es.length evc, es, .slice xva es.length xvc, true⟩], ?_, ?_, ?_⟩⟩
  · simp [Sg.wg]
  · simpa [ptrs] using hok2
  · refine close (F' := logR l d pre n2 (sg ++ [⟨sb, first, .slice eva es.length evc, es, .slice xva es.length xvc, true⟩]) (first + es.length) ++ F) ?_ hB
    have e1 : ptrs (sg ++ [(⟨sb, first, .slice eva es.length evc, es, .slice xva es.length xvc, true⟩ : Sg)]) = ptrs sg ++ [.pointer (some ⟨sb, 0, none⟩)] := by simp [ptrs]
    have e2 : (sg ++ [(⟨sb, first, .slice eva es.length evc, es, .slice xva es.length xvc, true⟩ : Sg)]).flatMap Sg.res = sg.flatMap Sg.res ++ (.blk sb [.int .i64 (first : Int), .slice eva es.length evc, .slice xva es.length xvc, .bool true] 80 :: .rc 23 (.slice eva es.length evc) es.length (es.map En.v) :: .rc 3 (.slice xva es.length xvc) es.length ((endsW 0 first (es.map En.d)).map iN) :: es.map En.res) := by
      simp [Sg.res, Sg.hd, Sg.cells, Sg.eR, Sg.xR, Sg.xs]
    have := (hL.pop 1).perm (perm_fin _ _ _ _ _ _ _ _ _)
    rw [logR, logC, e1, e2, hv2]
    exact this
end Go.Proofs.YtjafamiaahabgaaGreatDoor
