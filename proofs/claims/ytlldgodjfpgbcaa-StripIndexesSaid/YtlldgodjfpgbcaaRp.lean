/- A shard's file, plain: what bytes say as one; what rot does. Nothing is claimed here. -/
import Derived.Test.YtlldgodjfpgbcaaF
namespace Go.Proofs.Ytlldgodjfpgbcaa
set_option linter.unusedVariables false
set_option linter.unusedSimpArgs false

/-- n bytes from a place on -/
def win (b : List UInt8) (a n : Nat) : List UInt8 := (b.drop a).take n
theorem win_len {b : List UInt8} {a n : Nat} (h : a + n ≤ b.length) : (win b a n).length = n := by simp [win]; omega
def rowAt (b : List UInt8) (r : Nat) : List UInt8 := if ofB (win b (20 * r + 36) 4) = crc (win b (20 * r + 20) 16) then win b (20 * r + 20) 16 else []
def okHead (b : List UInt8) : Prop := win b 0 4 = markB ∧ b.length ≠ 20 ∧ (b.length - 20) % 20 = 0
def okNums (b : List UInt8) : Prop := ofB (win b 4 4) ≤ 2147483647 ∧ ofB (win b 8 4) ≤ 2147483647 ∧ 1 ≤ ofB (win b 12 4) ∧ ofB (win b 12 4) ≤ 4194304
instance (b : List UInt8) : Decidable (okHead b) := by unfold okHead; infer_instance
instance (b : List UInt8) : Decidable (okNums b) := by unfold okNums; infer_instance
/-- what is wrong with a file -/
def errB (b : List UInt8) : Nat := if b.length < 20 then 2 else if ¬ okHead b then 3 else if ofB (win b 16 4) ≠ crc (win b 0 16) then 4 else if ¬ okNums b then 1 else 0
def rowsB (b : List UInt8) (n : Nat) : List (List UInt8) := (List.range n).map (rowAt b)

/-! the sum tells one byte -/
theorem t16_top : ∀ i, i < 16 → ∀ j, j < 16 → t16 i / 268435456 = t16 j / 268435456 → i = j := by decide
theorem crcH_inj {v w : Nat} (hv : v < 4294967296) (hw : w < 4294967296) (h : crcH v = crcH w) : v = w := by
  have key : ∀ x, x < 4294967296 → crcH x / 268435456 = t16 (x % 16) / 268435456 := fun x hx => by
    unfold crcH
    have h1 : ∀ y, y / 268435456 = y >>> 28 := fun y => (Nat.shiftRight_eq_div_pow y 28).symm
    rw [h1, h1, Nat.shiftRight_xor_distrib, ← h1, Nat.div_eq_of_lt (by omega), Nat.zero_xor]
  have h1 : v % 16 = w % 16 := t16_top _ (Nat.mod_lt _ (by decide)) _ (Nat.mod_lt _ (by decide)) (by rw [← key v hv, ← key w hw, h])
  unfold crcH at h
  rw [h1] at h
  have h2 : v / 16 = w / 16 := by
    have := congrArg (· ^^^ t16 (w % 16)) h
    simpa [Nat.xor_assoc] using this
  omega
theorem crcB_inj {v w : Nat} {b c : UInt8} (hv : v < 4294967296) (hw : w < 4294967296) (h : crcB v b = crcB w c) : v ^^^ b.toNat = w ^^^ c.toNat :=
  crcH_inj (crcX_lt v b hv) (crcX_lt w c hw) (crcH_inj (crcH_lt _ (crcX_lt v b hv)) (crcH_lt _ (crcX_lt w c hw)) h)
theorem xor_left {a b c : Nat} (h : a ^^^ b = a ^^^ c) : b = c := by
  have := congrArg (a ^^^ ·) h
  simpa [← Nat.xor_assoc] using this
theorem xor_right {a b c : Nat} (h : b ^^^ a = c ^^^ a) : b = c := by
  rw [Nat.xor_comm b, Nat.xor_comm c] at h; exact xor_left h
theorem fold_inj : ∀ (l : List UInt8) (v w : Nat), v < 4294967296 → w < 4294967296 → l.foldl crcB v = l.foldl crcB w → v = w
  | [], v, w, _, _, h => h
  | b :: l, v, w, hv, hw, h => xor_right (crcB_inj hv hw (fold_inj l _ _ (crcB_lt v b hv) (crcB_lt w b hw) h))
theorem fold_lt : ∀ (l : List UInt8) (a : Nat), a < 4294967296 → l.foldl crcB a < 4294967296
  | [], _, h => h
  | b :: l, a, h => fold_lt l _ (crcB_lt a b h)
theorem crc_set {l : List UInt8} {i : Nat} {z : UInt8} (hi : i < l.length) (hz : z ≠ l[i]) : crc (l.set i z) ≠ crc l := by
  intro h
  have h1 : crcF (l.set i z) = crcF l := xor_left h
  have hs : l = l.take i ++ l[i] :: l.drop (i + 1) := by rw [← List.drop_eq_getElem_cons hi, List.take_append_drop]
  have hs' : l.set i z = l.take i ++ z :: l.drop (i + 1) := List.set_eq_take_append_cons_drop.trans (if_pos hi)
  rw [hs'] at h1
  have h2 : crcF (l.take i ++ z :: l.drop (i + 1)) = crcF (l.take i ++ l[i] :: l.drop (i + 1)) := by rw [h1]; exact congrArg crcF hs
  unfold crcF at h2
  rw [List.foldl_append, List.foldl_append, List.foldl_cons, List.foldl_cons] at h2
  have hv := fold_lt (l.take i) 4294967295 (by decide)
  have h3 := xor_left (crcB_inj hv hv (fold_inj _ _ _ (crcB_lt _ _ hv) (crcB_lt _ _ hv) h2))
  exact hz (UInt8.toNat_inj.1 h3)
theorem ofB_inj : ∀ (n : Nat) (l m : List UInt8), l.length = n → m.length = n → ofB l = ofB m → l = m
  | 0, l, m, hl, hm, _ => by rw [List.length_eq_zero_iff.1 hl, List.length_eq_zero_iff.1 hm]
  | n + 1, l, m, hl, hm, h => by
    have hl' : l ≠ [] := fun h => by rw [h] at hl; cases hl
    have hm' : m ≠ [] := fun h => by rw [h] at hm; cases hm
    rw [← List.dropLast_concat_getLast hl', ← List.dropLast_concat_getLast hm', ofB_snoc, ofB_snoc] at h
    have h1 := (l.getLast hl').toNat_lt
    have h2 := (m.getLast hm').toNat_lt
    have h3 := ofB_inj n l.dropLast m.dropLast (by simp [hl]) (by simp [hm]) (by omega)
    have h4 : (l.getLast hl') = m.getLast hm' := UInt8.toNat_inj.1 (by omega)
    rw [← List.dropLast_concat_getLast hl', ← List.dropLast_concat_getLast hm', h3, h4]
theorem ofB_set {l : List UInt8} {i : Nat} {z : UInt8} (hi : i < l.length) (hz : z ≠ l[i]) : ofB (l.set i z) ≠ ofB l := fun h => by
  have := ofB_inj l.length _ _ (by simp) rfl h
  have h1 := congrArg (fun x => x[i]?) this
  simp [hi] at h1
  exact hz h1
theorem ofB_put4 (v : Nat) (h : v < 4294967296) : ofB (putB v 4) = v := by
  simp only [putB, ofB, List.foldl_cons, List.foldl_nil, UInt8.toNat_ofNat']
  omega

/-! the windows of a file -/
theorem win_set {b : List UInt8} {k a n : Nat} {z : UInt8} : win (b.set k z) a n = if a ≤ k ∧ k < a + n then (win b a n).set (k - a) z else win b a n := by
  unfold win
  rw [List.drop_set]
  split
  · rw [if_neg (by omega)]
  · rw [List.take_set]
    split
    · rfl
    · refine List.set_eq_of_length_le ?_
      simp; omega
theorem win_app {A B C : List UInt8} {n : Nat} (h : B.length = n) : win (A ++ B ++ C) A.length n = B := by
  unfold win
  rw [List.append_assoc, List.drop_left, List.take_left' h]
theorem win_app' {A B C : List UInt8} {a n : Nat} (ha : A.length = a) (h : B.length = n) : win (A ++ B ++ C) a n = B := by subst ha; exact win_app h
theorem blocks_split {rows : List UInt8} {r : Nat} : ∀ {N : Nat}, r < N → ∃ C, blocksB rows N = blocksB rows r ++ blockB rows r ++ C
  | 0, h => by omega
  | N + 1, h => by
    by_cases hr : r = N
    · subst hr; exact ⟨[], by simp [blocksB]⟩
    · obtain ⟨C, hC⟩ := blocks_split (rows := rows) (r := r) (N := N) (by omega)
      exact ⟨C ++ blockB rows N, by rw [blocksB, hC]; simp⟩
section
variable {id i size N : Nat} {l : List UInt8} (hN : l.length = 16 * N)
include hN
theorem file_len : (fileB id i size l).length = 20 + 20 * N := by
  have h1 : l.length / 16 = N := by omega
  rw [fileB, h1, List.length_append, List.length_append, headB_len, putB_len, blocksB_len l N (by omega)]
theorem file_row {r : Nat} (hr : r < N) : win (fileB id i size l) (20 * r + 20) 16 = chunk l r ∧ win (fileB id i size l) (20 * r + 36) 4 = putB (crc (chunk l r)) 4 := by
  have h1 : l.length / 16 = N := by omega
  obtain ⟨C, hC⟩ := blocks_split (rows := l) hr
  have hb := blocksB_len l r (by omega)
  have hc := chunk_len l r (by omega)
  have e1 : fileB id i size l = (headB id i size ++ putB (crc (headB id i size)) 4 ++ blocksB l r) ++ chunk l r ++ (putB (crc (chunk l r)) 4 ++ C) := by
    rw [fileB, h1, hC, blockB]; simp
  have e2 : fileB id i size l = (headB id i size ++ putB (crc (headB id i size)) 4 ++ blocksB l r ++ chunk l r) ++ putB (crc (chunk l r)) 4 ++ C := by
    rw [fileB, h1, hC, blockB]; simp
  constructor
  · rw [e1]; exact win_app' (by simp [headB_len, putB_len, hb]; omega) hc
  · rw [e2]; exact win_app' (by simp [headB_len, putB_len, hb, hc]; omega) (putB_len _ _)
omit hN in
theorem file_head : win (fileB id i size l) 0 16 = headB id i size ∧ win (fileB id i size l) 16 4 = putB (crc (headB id i size)) 4 := by
  constructor
  · have : fileB id i size l = [] ++ headB id i size ++ (putB (crc (headB id i size)) 4 ++ blocksB l (l.length / 16)) := by simp [fileB]
    rw [this]; exact win_app' rfl (headB_len _ _ _)
  · exact win_app' (headB_len _ _ _) (putB_len _ _)
omit hN in
theorem file_nums : win (fileB id i size l) 0 4 = markB ∧ win (fileB id i size l) 4 4 = putB id 4 ∧ win (fileB id i size l) 8 4 = putB i 4 ∧ win (fileB id i size l) 12 4 = putB size 4 := by
  refine ⟨?_, ?_, ?_, ?_⟩
  · have : fileB id i size l = [] ++ markB ++ (putB id 4 ++ putB i 4 ++ putB size 4 ++ putB (crc (headB id i size)) 4 ++ blocksB l (l.length / 16)) := by simp [fileB, headB]
    rw [this]; exact win_app' rfl rfl
  · have : fileB id i size l = markB ++ putB id 4 ++ (putB i 4 ++ putB size 4 ++ putB (crc (headB id i size)) 4 ++ blocksB l (l.length / 16)) := by simp [fileB, headB]
    rw [this]; exact win_app' rfl (putB_len _ _)
  · have : fileB id i size l = (markB ++ putB id 4) ++ putB i 4 ++ (putB size 4 ++ putB (crc (headB id i size)) 4 ++ blocksB l (l.length / 16)) := by simp [fileB, headB]
    rw [this]; exact win_app' (by simp [putB_len, markB]) (putB_len _ _)
  · have : fileB id i size l = (markB ++ putB id 4 ++ putB i 4) ++ putB size 4 ++ (putB (crc (headB id i size)) 4 ++ blocksB l (l.length / 16)) := by simp [fileB, headB]
    rw [this]; exact win_app' (by simp [putB_len, markB]) (putB_len _ _)
omit hN in
theorem win_get {b : List UInt8} (a n j : Nat) (hj : j < n) (hb : a + j < b.length) (h : j < (win b a n).length) : (win b a n)[j]'h = b[a + j]'hb := by
  simp [win]
end
/-- a byte that rots costs one row, or the file -/
theorem rot_head {l : List UInt8} {N k : Nat} {z : UInt8} (hN : l.length = 16 * N) (h1 : 1 ≤ N) (hk : k < (fileB 1 2 3 l).length) (hz : z ≠ (fileB 1 2 3 l)[k]) (h20 : k < 20) : errB ((fileB 1 2 3 l).set k z) ≠ 0 := by
  have hfl := file_len (id := 1) (i := 2) (size := 3) hN
  have hh := file_head (id := 1) (i := 2) (size := 3) (l := l)
  have hm := (file_nums (id := 1) (i := 2) (size := 3) (l := l)).1
  generalize fileB 1 2 3 l = f at *
  unfold errB
  rw [if_neg (by simp; omega)]
  by_cases h4 : k < 4
  · have : ¬ okHead (f.set k z) := fun h => by
      have h2 := h.1
      rw [win_set, if_pos (by omega)] at h2
      have h3 := congrArg (fun x => x[k]?) (h2.trans hm.symm)
      have hw := win_len (b := f) (a := 0) (n := 4) (by omega)
      simp only [Nat.sub_zero, List.getElem?_set, if_true, hw, h4] at h3
      rw [List.getElem?_eq_getElem (by omega), win_get 0 4 k (by omega) (by omega)] at h3
      simp at h3
      exact hz h3
    rw [if_pos this]; decide
  · split
    · decide
    · have hne : ofB (win (f.set k z) 16 4) ≠ crc (win (f.set k z) 0 16) := by
        have hsame : ofB (win f 16 4) = crc (win f 0 16) := by rw [hh.1, hh.2, ofB_put4 _ (crc_lt _)]
        rw [win_set, win_set]
        by_cases h16 : k < 16
        · rw [if_neg (by omega), if_pos (by omega), hsame]
          have hw := win_len (b := f) (a := 0) (n := 16) (by omega)
          refine (crc_set (by omega) ?_).symm
          rw [win_get 0 16 (k - 0) (by omega) (by omega)]
          simpa using hz
        · rw [if_pos (by omega), if_neg (by omega), ← hsame]
          have hw := win_len (b := f) (a := 16) (n := 4) (by omega)
          refine ofB_set (by omega) ?_
          rw [win_get 16 4 (k - 16) (by omega) (by omega)]
          have : 16 + (k - 16) = k := by omega
          simpa [this] using hz
      rw [if_pos hne]; decide
theorem rot_rows {l : List UInt8} {N k : Nat} {z : UInt8} (hN : l.length = 16 * N) (h1 : 1 ≤ N) (hk : k < (fileB 1 2 3 l).length) (hz : z ≠ (fileB 1 2 3 l)[k]) (h20 : ¬ k < 20) :
    errB ((fileB 1 2 3 l).set k z) = 0 ∧ (((fileB 1 2 3 l).set k z).length - 20) / 20 = N ∧ ∀ r, r < N → rowAt ((fileB 1 2 3 l).set k z) r = if r = (k - 20) / 20 then [] else chunk l r := by
  have hfl := file_len (id := 1) (i := 2) (size := 3) hN
  have hh := file_head (id := 1) (i := 2) (size := 3) (l := l)
  have hm := file_nums (id := 1) (i := 2) (size := 3) (l := l)
  have hr := fun r (h : r < N) => file_row (id := 1) (i := 2) (size := 3) hN h
  have hcl := fun r (h : r < N) => chunk_len l r (by omega)
  generalize fileB 1 2 3 l = f at *
  have hw : ∀ a n, a + n ≤ 20 → win (f.set k z) a n = win f a n := fun a n h => by rw [win_set, if_neg (by omega)]
  refine ⟨?_, by rw [List.length_set]; omega, fun r hrN => ?_⟩
  · unfold errB
    have h2 : okHead (f.set k z) := ⟨by rw [hw _ _ (by omega)]; exact hm.1, by simp; omega, by simp; omega⟩
    have h3 : okNums (f.set k z) := by
      unfold okNums
      rw [hw _ _ (by omega), hw _ _ (by omega), hw _ _ (by omega), hm.2.1, hm.2.2.1, hm.2.2.2, ofB_put4 _ (by decide), ofB_put4 _ (by decide), ofB_put4 _ (by decide)]
      decide
    rw [if_neg (by simp; omega), if_neg (fun h => h h2), if_neg (fun h => h (by rw [hw _ _ (by omega), hw _ _ (by omega), hh.1, hh.2, ofB_put4 _ (crc_lt _)])), if_neg (fun h => h h3)]
  · obtain ⟨e1, e2⟩ := hr r hrN
    have hc := hcl r hrN
    have hsame : ofB (win f (20 * r + 36) 4) = crc (win f (20 * r + 20) 16) := by rw [e1, e2, ofB_put4 _ (crc_lt _)]
    unfold rowAt
    by_cases hrk : r = (k - 20) / 20
    · rw [if_pos hrk]
      refine if_neg ?_
      rw [win_set, win_set]
      by_cases h16 : k < 20 * r + 36
      · rw [if_neg (by omega), if_pos (by omega), hsame]
        have hw := win_len (b := f) (a := 20 * r + 20) (n := 16) (by omega)
        refine (crc_set (by omega) ?_).symm
        rw [win_get (20 * r + 20) 16 (k - (20 * r + 20)) (by omega) (by omega)]
        have : 20 * r + 20 + (k - (20 * r + 20)) = k := by omega
        simpa [this] using hz
      · rw [if_pos (by omega), if_neg (by omega), ← hsame]
        have hw := win_len (b := f) (a := 20 * r + 36) (n := 4) (by omega)
        refine ofB_set (by omega) ?_
        rw [win_get (20 * r + 36) 4 (k - (20 * r + 36)) (by omega) (by omega)]
        have : 20 * r + 36 + (k - (20 * r + 36)) = k := by omega
        simpa [this] using hz
    · have w1 : win (f.set k z) (20 * r + 36) 4 = win f (20 * r + 36) 4 := by rw [win_set, if_neg (by omega)]
      have w2 : win (f.set k z) (20 * r + 20) 16 = win f (20 * r + 20) 16 := by rw [win_set, if_neg (by omega)]
      rw [if_neg hrk, w1, w2, if_pos hsame, e1]
end Go.Proofs.Ytlldgodjfpgbcaa
