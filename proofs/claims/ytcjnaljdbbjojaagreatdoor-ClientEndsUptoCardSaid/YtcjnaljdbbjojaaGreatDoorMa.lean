/- matrix.One, Code; shard.times, Sums. Nothing is claimed here. -/
import Derived.Test.YtcjnaljdbbjojaaGreatDoorM
namespace Go.Proofs.YtcjnaljdbbjojaaGreatDoor
open Go.RowKit
set_option linter.unusedVariables false
set_option linter.unusedSimpArgs false
set_option maxRecDepth 100000

def oneRow (n i : Nat) : List UInt8 := (List.replicate n 0).set i 1
def oneM (n : Nat) : List (List UInt8) := (List.range n).map (oneRow n)
theorem oneM_take (n k : Nat) (h : k < n) : (oneM n).take (k + 1) = (oneM n).take k ++ [oneRow n k] := by
  rw [List.take_succ_eq_append_getElem (by simp [oneM]; omega)]
  simp [oneM]
theorem oneRow_len (n i : Nat) : (oneRow n i).length = n := by simp [oneRow]

/-- a fresh matrix: its rows are the callee's own -/
structure Mat (w : World) (base : Nat) (v : Value) (ls : List (List UInt8)) : Prop where
  of : ∃ us, w.ownsRow base 37 1 v ls.length us ∧ InsO w base 5 us ls
theorem Mat.ss {w : World} {base : Nat} {v : Value} {ls : List (List UInt8)} (h : Mat w base v ls) : SS w v ls := by
  obtain ⟨us, h1, h2⟩ := h.of
  exact ⟨us, Sl.of_own h1, h2.ins⟩
theorem Mat.below {w w' : World} {base : Nat} {v : Value} {ls : List (List UInt8)} (h : Mat w base v ls) (hb : Below w.heap.size w w') : Mat w' base v ls := by
  obtain ⟨us, h1, h2⟩ := h.of
  exact ⟨us, own_below h1 hb (Nat.le_refl _), h2.below hb⟩

theorem InsO.fresh {w w' : World} {base : Nat} {e e' : TypeId} {us : List Value} {ls : List (List UInt8)} (h : InsO w base e us ls) {r : Value} {sz n : Nat} {xs : List Value} (hr : w'.ownsRow w.heap.size e' sz r n xs) : ∀ u ∈ us, u.ownBlock = none ∨ u.ownBlock ≠ r.ownBlock := by
  intro u hu
  cases hb : u.ownBlock with
  | none => exact .inl rfl
  | some q =>
    obtain ⟨i, hi'⟩ := List.getElem?_of_mem hu
    have h1 := (h.lt hi' q hb).2
    exact .inr fun h2 => by have := (hr.lt q h2.symm).1; omega
theorem InsO.pushed {w4 w5 w6 : World} {base n : Nat} {u r : Value} {us : List Value} {ls : List (List UInt8)} {l : List UInt8} (hmo : w4.ownsRow base 37 1 u n us) (hmi : InsO w4 base 5 us ls)
    (hr : w4.ownsRow base 5 1 r l.length (bv l)) (hsep : ∀ u' ∈ us, u'.ownBlock = none ∨ u'.ownBlock ≠ r.ownBlock) (hg5 : w4.grownBy w5 none) (hg6 : w5.grownBy w6 u.ownBlock) : InsO w6 base 5 (us ++ [r]) (ls ++ [l]) := by
  have hi4 : InsO w4 base 5 (us ++ [r]) (ls ++ [l]) := hmi.snoc hr hsep
  exact (hi4.grown0 hg5).grown hg6 (hi4.apart hmo (by decide))
theorem below_push {w w4 w5 w6 : World} {base n sz : Nat} {e : TypeId} {u : Value} {us : List Value} (hmo : w4.ownsRow base e sz u n us) (hW : Below base w w4) (hs : base ≤ w.heap.size) (hg5 : w4.grownBy w5 none) (hg6 : w5.grownBy w6 u.ownBlock) : Below base w w6 := by
  have h5 := hW.trans (below_of_grown0 hg5 (Nat.le_trans hs hW.size))
  exact h5.trans ((Below.refl base w5).grown hg6 (Nat.le_trans hs h5.size) fun k hk => (hmo.lt k hk).1)

theorem one_fn (n : Nat) (h1 : 1 ≤ n) (h2 : n ≤ 64) (w : World) :
    Fn Tryz.prog 47 #[.int .i64 n] w fun r w' => ∃ u, r = .tuple #[u, .int .i64 0] ∧ Mat w' w.heap.size u (oneM n) ∧ Below w.heap.size w w' := by
  refine Fn.mk Tryz.func47 rfl (by kernel_rfl) Tryz.ntmps47 rfl (by rw [Tryz.results47]) ?_
  refine RunR ?_
  refine Rv.make ttOk n n tl83 tl37 rfl rfl rfl (Nat.le_refl _) (by omega) (by simp only [maxLen]; omega) fun w1 ho hg => ?_
  conv => whnf
  refine RunR ?_
  refine V.loop (α := Nat × List Value) (fun (k, us) => [(0, .int .i64 n), (4, .slice (some ⟨w.heap.size, 0, none⟩) n n), (15, .int .i64 n), (16, .int .i64 k)])
    (fun (k, us) w' => k ≤ n ∧ w'.ownsRow w.heap.size 37 1 (.slice (some ⟨w.heap.size, 0, none⟩) n n) n (us ++ List.replicate (n - k) (.slice none 0 0)) ∧ InsO w' w.heap.size 5 us ((oneM n).take k) ∧ Below w.heap.size w w')
    (fun (k, us) => n - k) (0, []) ⟨rfl, rfl, rfl, rfl, trivial⟩ ⟨by omega, ho, InsO.nil _ _ _, below_of_grown0 hg (Nat.le_refl _)⟩ ?_
  rintro ⟨k, us⟩ w2 ⟨hk, ho, hi, hW⟩
  dsimp only at *
  have hlt : w.heap.size < w2.heap.size := (ho.lt w.heap.size rfl).2
  have hul : us.length = k := by rw [hi.len]; simp [oneM]; omega
  refine RunR ?_
  refine Br.dec (fun h => ?_) (fun h => ?_)
  · have hkl : k < n := by omega
    refine RunR ?_
    refine Rv.make ttOk n n tl37 tl5 rfl rfl rfl (Nat.le_refl _) (by omega) (by simp only [maxLen]; omega) fun w3 ho3 hg3 => ?_
    conv => whnf
    refine RunR ?_
    intro o2 ho2
    obtain rfl : o2 = k := by omega
    conv => whnf
    refine St.own tl37 rfl (own_keep0 ho hg3) hkl rfl rfl ttOk fun w4 ho4 hg4 => ?_
    have hin := ho3.kept hg4 (.inr (by simp only [Value.ownBlock]; intro h; injection h; omega))
    have hi4 := (hi.grown0 hg3).grown hg4 ((hi.grown0 hg3).apart (own_keep0 ho hg3) (by decide))
    rw [(by omega : n - o2 = (n - (o2 + 1)) + 1), fill_set _ _ _ _ hul.symm] at ho4
    conv => whnf
    refine RunR ?_
    intro o3 hp3
    obtain rfl : o3 = o2 := by omega
    conv => whnf
    refine Ld.own ttOk tl37 rfl ho4 hkl (by rw [List.append_assoc, List.getElem?_append_right (by omega), hul]; simp; rfl) ?_
    conv => whnf
    refine RunR ?_
    intro o4 hp4
    obtain rfl : o4 = o3 := by omega
    conv => whnf
    refine St.own tl5 rfl hin hkl rfl rfl ttOk fun w5 ho5 hg5 => ?_
    conv => whnf
    refine RunR ?_
    have hne : ∀ u ∈ us, u.ownBlock = none ∨ u.ownBlock ≠ some w2.heap.size := by
      intro u hu
      cases hb : u.ownBlock with
      | none => exact .inl rfl
      | some q =>
        obtain ⟨i, hi'⟩ := List.getElem?_of_mem hu
        have := (hi.lt hi' q hb).2
        exact .inr (by intro h; injection h; omega)
    have e5 : (List.replicate n (Value.int .u8 0)).set o4 (.int .u8 1) = bv (oneRow n o4) := by simp [bv, oneRow, u8]
    rw [e5] at ho5
    have hi5 : InsO w5 w.heap.size 5 (us ++ [Value.slice (some ⟨w2.heap.size, 0, none⟩) n n]) ((oneM n).take (o4 + 1)) := by
      rw [oneM_take n o4 hkl]
      refine (hi4.grown hg5 hne).snoc ?_ hne
      rw [oneRow_len]
      exact own_mono ho5 hW.size
    refine ⟨(o4 + 1, us ++ [.slice (some ⟨w2.heap.size, 0, none⟩) n n]), ⟨rfl, rfl, rfl, rfl, trivial⟩, ⟨by dsimp only; omega, ?_, hi5, ?_⟩, (by first | omega | (dsimp only; omega))⟩
    · exact ho4.kept hg5 (.inr (by simp only [Value.ownBlock]; intro h; injection h; omega))
    · have b1 := hW.trans (below_of_grown0 hg3 hW.size)
      have b2 := b1.trans (below_own_store hg4 b1.size (Nat.le_refl _))
      exact b2.trans (below_own_store hg5 b2.size (by omega))
  · obtain rfl : k = n := by omega
    refine RunR ?_
    refine ⟨_, rfl, ⟨us, ?_, ?_⟩, hW⟩
    · simpa [oneM] using ho
    · rwa [List.take_of_length_le (by simp [oneM])] at hi

def codeRow (k i : Nat) : List UInt8 := (List.range k).map fun j => gib (UInt8.ofNat ((k + i) ^^^ j))
def codeM (k m : Nat) : List (List UInt8) := oneM k ++ (List.range m).map (codeRow k)
theorem codeRow_len (k i : Nat) : (codeRow k i).length = k := by simp [codeRow]
theorem codeM_len (k m : Nat) : (codeM k m).length = k + m := by simp [codeM, oneM]
theorem codeM_succ (k m : Nat) : codeM k (m + 1) = codeM k m ++ [codeRow k m] := by simp [codeM, List.range_succ]
theorem u8_val (x : Nat) (h : x < 256) : (.int .u8 (x : Int) : Value) = u8 (UInt8.ofNat x) := u8_ofNat x h

theorem gibN_fn (x : Nat) (hx : x < 256) (w : World) : Fn Tryz.prog 48 #[.int .u8 x] w fun r w' => w' = w ∧ ∃ e, r = .tuple #[u8 (gib (UInt8.ofNat x)), e] := by
  rw [u8_ofNat x hx]
  exact (gib_fn (UInt8.ofNat x) w).mono fun r w' ⟨h1, h2⟩ => ⟨h1, _, h2⟩

theorem code_fn (k m : Nat) (h1 : 1 ≤ k) (h2 : k + m ≤ 14) (w : World) :
    Fn Tryz.prog 30 #[.int .i64 k, .int .i64 m] w fun r w' => ∃ u, r = .tuple #[u, .int .i64 0] ∧ Mat w' w.heap.size u (codeM k m) ∧ Below w.heap.size w w' := by
  refine Fn.mk Tryz.func30 rfl (by kernel_rfl) Tryz.ntmps30 rfl (by rw [Tryz.results30]) ?_
  refine RunR ?_
  refine (one_fn k h1 (by omega) w).mono fun r w1 ⟨u, hr, hm, hW⟩ => ?_
  subst hr
  conv => whnf
  refine RunR ?_
  refine V.loop (α := Nat × Value) (fun (i, u) => [(0, .int .i64 k), (1, .int .i64 m), (6, u), (32, .int .i64 m), (33, .int .i64 i)])
    (fun (i, u) w' => i ≤ m ∧ Mat w' w.heap.size u (codeM k i) ∧ Below w.heap.size w w')
    (fun (i, _) => m - i) (0, u) ⟨rfl, rfl, rfl, rfl, rfl, trivial⟩ ⟨by omega, by simpa [codeM] using hm, hW⟩ ?_
  rintro ⟨i, u⟩ w2 ⟨hi, hm, hW⟩
  dsimp only at *
  refine RunR ?_
  refine Br.dec (fun h => ?_) (fun h => ?_)
  · refine RunR ?_
    refine Rv.make ttOk k k tl37 tl5 rfl rfl rfl (Nat.le_refl _) (by omega) (by simp only [maxLen]; omega) fun w3 ho3 hg3 => ?_
    have hm3 := hm.below (below_of_grown0 hg3 (Nat.le_refl _))
    have hW3 := hW.trans (below_of_grown0 hg3 hW.size)
    have hsz3 : w2.heap.size < w3.heap.size := (ho3.lt w2.heap.size rfl).2
    conv => whnf
    refine RunR ?_
    refine V.loop (α := Nat) (fun j => [(0, .int .i64 k), (1, .int .i64 m), (6, u), (32, .int .i64 m), (33, .int .i64 i), (8, .int .i64 i), (9, .slice (some ⟨w2.heap.size, 0, none⟩) k k), (39, .int .i64 k), (40, .int .i64 j)])
      (fun j w' => j ≤ k ∧ w'.ownsRow w2.heap.size 5 1 (.slice (some ⟨w2.heap.size, 0, none⟩) k k) k (bv ((codeRow k i).take j) ++ List.replicate (k - j) (u8 0)) ∧ Below w2.heap.size w2 w')
      (fun j => k - j) 0 ⟨rfl, rfl, rfl, rfl, rfl, rfl, rfl, rfl, rfl, trivial⟩ ⟨by omega, ho3, below_of_grown0 hg3 (Nat.le_refl _)⟩ ?_
    rintro j w4 ⟨hj, ho4, hW4⟩
    refine RunR ?_
    refine Br.dec (fun h => ?_) (fun h => ?_)
    · have hx : (k + i) ^^^ j < 16 := Nat.xor_lt_two_pow (n := 4) (by omega) (by omega)
      refine RunR ?_
      refine Bt.xorI (k + i) j (by omega) rfl (by omega) (by omega) ?_
      conv => whnf
      refine RunR ?_
      refine (gibN_fn ((k + i) ^^^ j) (by omega) w4).mono fun r w5 ⟨hw, e, hr⟩ => ?_
      subst hr; subst hw
      conv => whnf
      refine RunR ?_
      intro o2 ho2
      obtain rfl : o2 = j := by omega
      conv => whnf
      refine St.own tl5 rfl ho4 (by omega) rfl rfl ttOk fun w5 ho5 hg5 => ?_
      conv => whnf
      refine RunR ?_
      refine ⟨o2 + 1, ⟨rfl, rfl, rfl, rfl, rfl, rfl, rfl, rfl, rfl, trivial⟩, ⟨by omega, ?_, hW4.trans (below_own_store hg5 hW4.size (Nat.le_refl _))⟩, (by first | omega | (dsimp only; omega))⟩
      rw [(by omega : k - o2 = (k - (o2 + 1)) + 1), fill_set _ _ _ _ (by simp [codeRow]; omega)] at ho5
      rw [List.take_succ_eq_append_getElem (by simp [codeRow]; omega), bv_append]
      simpa [codeRow, bv] using ho5
    · obtain rfl : j = k := by omega
      rw [Nat.sub_self, List.replicate_zero, List.append_nil, List.take_of_length_le (by simp [codeRow])] at ho4
      have hm4 := hm.below hW4
      have hW5 := hW.trans (hW4.mono hW.size)
      obtain ⟨us, hmo2, hmi2⟩ := hm.of
      have hmo := own_below hmo2 hW4 (Nat.le_refl _)
      have hmi := hmi2.below hW4
      have hsep := hmi2.fresh ho4
      rw [codeM_len] at hmo
      refine RunR ?_
      refine Rv.build ttOk tl83 tl37 rfl rfl (by simp [cellsL]) (by decide) (by decide) fun w5 ho5 hg5 _ => ?_
      conv => whnf
      refine Rv.append' ttOk tl83 tl37 rfl (by decide) (own_keep0 hmo hg5) (SlN.of_own ho5) (by simp [cellsL, Value.oneCell']) (by simp only [maxLen]; omega) (by omega) (Nat.le_trans hW5.size hg5.size) fun v6 w6 ho6 hg6 hb6 => ?_
      have hi6 := InsO.pushed hmo hmi (l := codeRow j i) (by rw [codeRow_len]; exact own_mono ho4 hW.size) hsep hg5 hg6
      conv => whnf
      refine RunR ?_
      refine ⟨(i + 1, v6), ⟨rfl, rfl, rfl, rfl, rfl, trivial⟩, ⟨by dsimp only; omega, ⟨_, ?_, by dsimp only; rw [codeM_succ]; exact hi6⟩, below_push hmo hW5 (Nat.le_refl _) hg5 hg6⟩, (by first | omega | (dsimp only; omega))⟩
      dsimp only
      rw [codeM_len, ← Nat.add_assoc]
      simpa [cellsL] using ho6
  · obtain rfl : i = m := by omega
    refine RunR ?_
    exact ⟨_, rfl, hm, hW⟩

theorem code_bad (k m : Int) (h : k < 1 ∨ m < 0 ∨ 14 < k ∨ 14 - k < m) (hk : -1000 < k ∧ k < 1000) (hm : -1000 < m ∧ m < 1000) (w : World) :
    Fn Tryz.prog 30 #[.int .i64 k, .int .i64 m] w fun r w' => r = .tuple #[.slice none 0 0, .int .i64 1] ∧ w' = w := by
  refine Fn.mk Tryz.func30 rfl (by kernel_rfl) Tryz.ntmps30 rfl (by rw [Tryz.results30]) ?_
  by_cases h1 : k < 1
  · refine RunR ?_
    exact ⟨rfl, rfl⟩
  · by_cases h2 : m < 0
    · refine RunR ?_
      exact ⟨rfl, rfl⟩
    · by_cases h3 : 14 < k
      · refine RunR ?_
        exact ⟨rfl, rfl⟩
      · refine RunR ?_
        exact ⟨rfl, rfl⟩

def blendB (n : Nat) (c : List UInt8) (D : List (List UInt8)) : List UInt8 := (c.zip D).foldl (fun s p => List.zipWith (· ^^^ ·) s (p.2.map fun x => gmb x p.1)) (List.replicate n 0)
theorem zip_take_succ {α β : Type} : ∀ (c : List α) (D : List β) (j : Nat) (hc : j < c.length) (hd : j < D.length), (c.take (j + 1)).zip D = (c.take j).zip D ++ [(c[j], D[j])]
  | x :: c, y :: D, 0, _, _ => by simp
  | x :: c, y :: D, j + 1, hc, hd => by
    have := zip_take_succ c D j (by simpa using hc) (by simpa using hd)
    simpa using this
theorem blendB_take (n : Nat) (c : List UInt8) (D : List (List UInt8)) (j : Nat) (hc : j < c.length) (hd : j < D.length) : blendB n (c.take (j + 1)) D = List.zipWith (· ^^^ ·) (blendB n (c.take j) D) (D[j].map fun x => gmb x c[j]) := by
  unfold blendB
  rw [zip_take_succ c D j hc hd, List.foldl_append]
  rfl
theorem blendB_len (n : Nat) (c : List UInt8) (D : List (List UInt8)) (hD : ∀ l ∈ D, l.length = n) : (blendB n c D).length = n := by
  unfold blendB
  have : ∀ (l : List (UInt8 × List UInt8)) (s : List UInt8), (∀ p ∈ l, p.2.length = n) → s.length = n → (l.foldl (fun s p => List.zipWith (· ^^^ ·) s (p.2.map fun x => gmb x p.1)) s).length = n := by
    intro l
    induction l with
    | nil => intro s _ hs; exact hs
    | cons p l ih =>
      intro s hp hs
      refine ih _ (fun q hq => hp q (by simp [hq])) ?_
      simp [hs, hp p (by simp)]
  exact this _ _ (fun p hp => hD _ (List.of_mem_zip hp).2) (by simp)

theorem times_fn (vc vd : Value) (C D : List (List UInt8)) (n : Nat) (d0 : List UInt8) (hd : D[0]? = some d0) (hn : d0.length = n) (hD : ∀ l ∈ D, l.length = n) (hC : ∀ l ∈ C, l.length ≤ D.length) (hl : n ≤ 140737488355328) (hCl : C.length ≤ 1000) (w : World) (hc : SS w vc C) (hdd : SS w vd D) :
    Fn Tryz.prog 104 #[vc, vd] w fun r w' => Mat w' w.heap.size r (C.map fun c => blendB n c D) ∧ Below w.heap.size w w' := by
  obtain ⟨cs, hcs, hci⟩ := hc.of
  obtain ⟨ds, hds, hdi⟩ := hdd.of
  have hcl := hci.len
  have hdl := hdi.len
  have hle1 := hcs.le
  have hle2 := hds.le
  obtain ⟨a, cp, rfl⟩ := hcs.shape
  obtain ⟨a2, cp2, rfl⟩ := hds.shape
  rw [hcl] at hcs hle1 ⊢
  rw [hdl] at hds hle2 ⊢
  have hd1 : 0 < D.length := (List.getElem?_eq_some_iff.1 hd).1
  refine Fn.mk Tryz.func104 rfl (by kernel_rfl) Tryz.ntmps104 rfl (by rw [Tryz.results104]) ?_
  refine RunR ?_
  refine V.loop (α := Nat × Value) (fun (i, u) => [(1, .slice a2 D.length cp2), (5, u), (11, .slice a C.length cp), (12, .int .i64 C.length), (13, .int .i64 i)])
    (fun (i, u) w' => i ≤ C.length ∧ Mat w' w.heap.size u ((C.take i).map fun c => blendB n c D) ∧ Below w.heap.size w w')
    (fun (i, _) => C.length - i) (0, .slice none 0 0) ⟨rfl, rfl, rfl, rfl, rfl, trivial⟩ ⟨by omega, ⟨[], World.ownsRow_nil _ _ _ _, InsO.nil _ _ _⟩, Below.refl _ _⟩ ?_
  rintro ⟨i, u⟩ w2 ⟨hi, hm, hW⟩
  dsimp only at *
  refine RunR ?_
  refine Br.dec (fun h => ?_) (fun h => ?_)
  · have hil : i < C.length := by omega
    have hcs2 := hcs.below hW
    have hds2 := hds.below hW
    have hci2 := hci.below hW
    have hdi2 := hdi.below hW
    obtain ⟨uc, huc, hsc⟩ := hci2.get (List.getElem?_eq_getElem hil)
    obtain ⟨ud, hud, hsd⟩ := hdi2.get hd
    obtain ⟨b1, o1, rfl, hr1⟩ := hcs2.addr (by omega)
    obtain ⟨b2, o2, rfl, hr2⟩ := hds2.addr (by omega)
    have hcil := hC _ (List.getElem_mem hil)
    obtain ⟨ac, cc, rfl⟩ := hsc.shape
    obtain ⟨ad, cd, rfl⟩ := hsd.shape
    simp only [bv_length] at *
    rw [hn] at *
    refine RunR ?_
    intro o' ho'
    conv => whnf
    refine Ld.one ttOk tl37 rfl (hr1.at huc (by omega)) ?_
    conv => whnf
    refine RunR ?_
    intro o4 ho4
    conv => whnf
    refine Ld.one ttOk tl37 rfl (hr2.at hud (by omega)) ?_
    conv => whnf
    refine RunR ?_
    refine Rv.make ttOk n n tl37 tl5 rfl rfl rfl (Nat.le_refl _) (by omega) (by simp only [maxLen]; omega) fun w3 ho3 hg3 => ?_
    conv => whnf
    refine RunR ?_
    have hm3 := hm.below (below_of_grown0 hg3 (Nat.le_refl _))
    have hsc3 := hsc.below (below_of_grown0 hg3 (Nat.le_refl _))
    refine V.loop (α := Nat × Value) (fun (j, s) => [(1, .slice (some ⟨b2, o2, none⟩) D.length cp2), (5, u), (11, .slice (some ⟨b1, o1, none⟩) C.length cp), (12, .int .i64 C.length), (13, .int .i64 i), (8, s), (22, .slice ac C[i].length cc), (23, .int .i64 C[i].length), (24, .int .i64 j)])
      (fun (j, s) w' => j ≤ C[i].length ∧ w'.ownsRow w2.heap.size 5 1 s n (bv (blendB n (C[i].take j) D)) ∧ Below w2.heap.size w2 w')
      (fun (j, _) => C[i].length - j) (0, .slice (some ⟨w2.heap.size, 0, none⟩) n n) ⟨rfl, rfl, rfl, rfl, rfl, rfl, rfl, rfl, rfl, trivial⟩ ⟨by omega, by simpa [blendB, bv, u8] using ho3, below_of_grown0 hg3 (Nat.le_refl _)⟩ ?_
    rintro ⟨j, s⟩ w4 ⟨hj, ho4, hW4⟩
    dsimp only at *
    refine RunR ?_
    refine Br.dec (fun h => ?_) (fun h => ?_)
    · have hjl : j < C[i].length := by omega
      have hjd : j < D.length := by omega
      obtain ⟨b3, o3, rfl, hr3⟩ := (hsc.below hW4).addr (by omega)
      obtain ⟨ue, hue, hse⟩ := hdi2.get (List.getElem?_eq_getElem hjd)
      have hr2' := hr2
      have hDj : D[j].length = n := hD _ (List.getElem_mem hjd)
      refine RunR ?_
      intro o5 ho5
      conv => whnf
      refine Ld.one ttOk tl5 rfl (hr3.at (bv_get (List.getElem?_eq_getElem hjl)) (by omega)) ?_
      conv => whnf
      refine RunR ?_
      intro o6 ho6
      conv => whnf
      obtain ⟨b9, o9, e9, hr9⟩ := (hds2.below hW4).addr (by omega)
      injection e9 with e9; injection e9 with e9a e9b; subst e9a; subst e9b
      refine Ld.one ttOk tl37 rfl (hr9.at hue (by omega)) ?_
      conv => whnf
      refine (scale_fn ue D[j] C[i][j] w4 (hse.below hW4) (by omega)).mono fun r w5 ⟨ho5, hW5⟩ => ?_
      conv => whnf
      refine (add_fn s r (blendB n (C[i].take j) D) (D[j].map fun x => gmb x C[i][j]) w5 ?_ (Sl.of_own ho5) ?_ ?_).mono fun r w6 ⟨x, hr, ho6, hW6⟩ => ?_
      · exact (Sl.of_own ho4).below hW5
      · simp [blendB_len n _ _ hD, hDj]
      · rw [blendB_len n _ _ hD]; exact hl
      subst hr
      conv => whnf
      refine RunR ?_
      rw [blendB_len n _ _ hD] at ho6
      have hW6' := (hW4.trans (hW5.mono hW4.size)).trans (hW6.mono (Nat.le_trans hW4.size hW5.size))
      refine ⟨(j + 1, x), ⟨rfl, rfl, rfl, rfl, rfl, rfl, rfl, rfl, rfl, trivial⟩, ⟨by dsimp only; omega, ?_, hW6'⟩, (by first | omega | (dsimp only; omega))⟩
      dsimp only
      rw [blendB_take n _ _ _ hjl hjd]
      exact own_mono ho6 (Nat.le_trans hW4.size hW5.size)
    · obtain rfl : j = C[i].length := by omega
      rw [List.take_length] at ho4
      obtain ⟨us, hmo2, hmi2⟩ := hm.of
      have hmo := own_below hmo2 hW4 (Nat.le_refl _)
      have hmi := hmi2.below hW4
      have hsep := hmi2.fresh ho4
      have hW5 := hW.trans (hW4.mono hW.size)
      refine RunR ?_
      refine Rv.build ttOk tl83 tl37 rfl rfl (by obtain ⟨q1, q2, rfl⟩ := (Sl.of_own ho4).shape; simp [cellsL]) (by decide) (by decide) fun w5 ho5 hg5 _ => ?_
      conv => whnf
      refine Rv.append' ttOk tl83 tl37 rfl (by decide) (own_keep0 hmo hg5) (SlN.of_own ho5) (by obtain ⟨q1, q2, rfl⟩ := (Sl.of_own ho4).shape; simp [cellsL, Value.oneCell']) (by simp only [maxLen]; simp; omega) (by simp; omega) (Nat.le_trans hW5.size hg5.size) fun v6 w6 ho6 hg6 hb6 => ?_
      have hi6 := InsO.pushed hmo hmi (l := blendB n C[i] D) (by rw [blendB_len n _ _ hD]; exact own_mono ho4 hW.size) hsep hg5 hg6
      conv => whnf
      refine RunR ?_
      refine ⟨(i + 1, v6), ⟨rfl, rfl, rfl, rfl, rfl, trivial⟩, ⟨by dsimp only; omega, ⟨_, ?_, by dsimp only; rw [List.take_succ_eq_append_getElem hil, List.map_append]; exact hi6⟩, below_push hmo hW5 (Nat.le_refl _) hg5 hg6⟩, (by first | omega | (dsimp only; omega))⟩
      dsimp only
      rw [List.length_map, List.length_take, Nat.min_eq_left (by omega)] at ho6 ⊢
      obtain ⟨q1, q2, rfl⟩ := (Sl.of_own ho4).shape
      simpa [cellsL] using ho6
  · obtain rfl : i = C.length := by omega
    refine RunR ?_
    rw [List.take_length] at hm
    exact ⟨hm, hW⟩

end Go.Proofs.YtcjnaljdbbjojaaGreatDoor
