/- garnerref7.One, Code; garnerref8.blend, Sums. garnerref8.blend, Sums. Nothing is claimed here. -/
import Derived.Test.YtlldgodjfpgbcaaDoorK05
namespace Go.Proofs.YtlldgodjfpgbcaaDoor
open Go.RowKit
set_option linter.unusedVariables false
set_option linter.unusedSimpArgs false
set_option maxRecDepth 100000

theorem Mat.nil (w : World) (base : Nat) : Mat w base (.slice none 0 0) [] := ⟨[], World.ownsRow_nil _ _ _ _, InsO.nil _ _ _⟩

theorem oneR_fn (n : Nat) (h1 : 1 ≤ n) (h2 : n ≤ 64) (w : World) :
    Fn Tryd.prog 48 #[.int .i64 n] w fun r w' => ∃ u, r = .tuple #[u, .int .i64 0] ∧ Mat w' w.heap.size u (oneM n) ∧ Below w.heap.size w w' := by
  refine Fn.mk Tryd.func48 rfl (by kernel_rfl) Tryd.ntmps48 rfl (by rw [Tryd.results48]) ?_
  refine RunR ?_
  refine V.loop (α := Nat × Value) (fun (i, u) => [(0, .int .i64 n), (4, u), (5, .int .i64 i)])
    (fun (i, u) w' => i ≤ n ∧ Mat w' w.heap.size u ((oneM n).take i) ∧ Below w.heap.size w w')
    (fun (i, _) => n - i) (0, .slice none 0 0) ⟨rfl, rfl, rfl, trivial⟩ ⟨by omega, Mat.nil _ _, Below.refl _ _⟩ ?_
  rintro ⟨i, u⟩ w2 ⟨hi, hm, hW⟩
  dsimp only at *
  refine RunR ?_
  refine Br.dec (fun h => ?_) (fun h => ?_)
  · have hil : i < n := by omega
    obtain ⟨us, hmo2, hmi2⟩ := hm.of
    have e0 : ((oneM n).take i).length = i := by simp [oneM]; omega
    rw [e0] at hmo2
    refine RunR ?_
    refine Rv.make ttOk n n tl22 tl5 rfl rfl rfl (Nat.le_refl _) (by omega) (by simp only [maxLen]; omega) fun w3 ho3 hg3 => ?_
    have hsz3 : w2.heap.size < w3.heap.size := (ho3.lt w2.heap.size rfl).2
    conv => whnf
    refine RunR ?_
    intro o2 ho2
    obtain rfl : o2 = i := by omega
    conv => whnf
    refine St.own tl5 rfl ho3 (by omega) rfl rfl ttOk fun w4 ho4 hg4 => ?_
    have e5 : (List.replicate n (Value.int .u8 0)).set o2 (.int .u8 1) = bv (oneRow n o2) := by simp [bv, oneRow, u8]
    rw [e5] at ho4
    have hW4 : Below w2.heap.size w2 w4 := (below_of_grown0 hg3 (Nat.le_refl _)).trans (below_own_store hg4 (Nat.le_of_lt hsz3) (Nat.le_refl _))
    have hmo := own_below hmo2 hW4 (Nat.le_refl _)
    have hmi := hmi2.below hW4
    have hsep := hmi2.fresh ho4
    have hW5 := hW.trans (hW4.mono hW.size)
    conv => whnf
    refine RunR ?_
    refine Rv.build ttOk tl29 tl22 rfl rfl (by simp [cellsL]) (by decide) (by decide) fun w5 ho5 hg5 _ => ?_
    conv => whnf
    refine Rv.append' ttOk tl29 tl22 rfl (by decide) (own_keep0 hmo hg5) (SlN.of_own ho5) (by simp [cellsL, Value.oneCell']) (by simp only [maxLen]; omega) (by omega) (Nat.le_trans hW5.size hg5.size) fun v6 w6 ho6 hg6 hb6 => ?_
    have hi6 := InsO.pushed hmo hmi (l := oneRow n o2) (by rw [oneRow_len]; exact own_mono ho4 hW.size) hsep hg5 hg6
    conv => whnf
    refine RunR ?_
    refine ⟨(o2 + 1, v6), ⟨rfl, rfl, rfl, trivial⟩, ⟨by dsimp only; omega, ⟨_, ?_, by dsimp only; rw [oneM_take _ _ hil]; exact hi6⟩, below_push hmo hW5 (Nat.le_refl _) hg5 hg6⟩, (by first | omega | (dsimp only; omega))⟩
    dsimp only
    rw [oneM_take _ _ hil, List.length_append, e0]
    simpa [cellsL] using ho6
  · obtain rfl : i = n := by omega
    refine RunR ?_
    refine ⟨_, rfl, ?_, hW⟩
    rwa [List.take_of_length_le (by simp [oneM])] at hm

def rcodeRow (k i : Nat) : List UInt8 := (List.range k).map fun j => rib (UInt8.ofNat ((k + i) ^^^ j))
def rcodeM (k m : Nat) : List (List UInt8) := oneM k ++ (List.range m).map (rcodeRow k)
theorem rcodeRow_len (k i : Nat) : (rcodeRow k i).length = k := by simp [rcodeRow]
theorem rcodeM_len (k m : Nat) : (rcodeM k m).length = k + m := by simp [rcodeM, oneM]
theorem rcodeM_succ (k m : Nat) : rcodeM k (m + 1) = rcodeM k m ++ [rcodeRow k m] := by simp [rcodeM, List.range_succ]
theorem rcodeRow_take (k i j : Nat) (h : j < k) : (rcodeRow k i).take (j + 1) = (rcodeRow k i).take j ++ [rib (UInt8.ofNat ((k + i) ^^^ j))] := by
  rw [List.take_succ_eq_append_getElem (by simp [rcodeRow]; omega)]
  simp [rcodeRow]
theorem ribN_fn (x : Nat) (hx : x < 256) (w : World) : Fn Tryd.prog 49 #[.int .u8 x] w fun r w' => w' = w ∧ r = u8 (rib (UInt8.ofNat x)) := by
  rw [u8_ofNat x hx]
  exact rib_fn (UInt8.ofNat x) w

theorem codeR_fn (k m : Nat) (h1 : 1 ≤ k) (h2 : k + m ≤ 14) (w : World) :
    Fn Tryd.prog 37 #[.int .i64 k, .int .i64 m] w fun r w' => ∃ u, r = .tuple #[u, .int .i64 0] ∧ Mat w' w.heap.size u (rcodeM k m) ∧ Below w.heap.size w w' := by
  refine Fn.mk Tryd.func37 rfl (by kernel_rfl) Tryd.ntmps37 rfl (by rw [Tryd.results37]) ?_
  refine RunR ?_
  refine (oneR_fn k h1 (by omega) w).mono fun r w1 ⟨u, hr, hm, hW⟩ => ?_
  subst hr
  conv => whnf
  refine RunR ?_
  refine V.loop (α := Nat × Value) (fun (i, u) => [(0, .int .i64 k), (1, .int .i64 m), (6, u), (8, .int .i64 i)])
    (fun (i, u) w' => i ≤ m ∧ Mat w' w.heap.size u (rcodeM k i) ∧ Below w.heap.size w w')
    (fun (i, _) => m - i) (0, u) ⟨rfl, rfl, rfl, rfl, trivial⟩ ⟨by omega, by simpa [rcodeM] using hm, hW⟩ ?_
  rintro ⟨i, u⟩ w2 ⟨hi, hm, hW⟩
  dsimp only at *
  refine RunR ?_
  refine Br.dec (fun h => ?_) (fun h => ?_)
  · have hW2 := Below.refl w2.heap.size w2
    refine RunR ?_
    refine V.loop (α := Nat × Value) (fun (j, s) => [(0, .int .i64 k), (1, .int .i64 m), (6, u), (8, .int .i64 i), (9, s), (10, .int .i64 j)])
      (fun (j, s) w' => j ≤ k ∧ w'.ownsRow w2.heap.size 5 1 s j (bv ((rcodeRow k i).take j)) ∧ Below w2.heap.size w2 w')
      (fun (j, _) => k - j) (0, .slice none 0 0) ⟨rfl, rfl, rfl, rfl, rfl, rfl, trivial⟩ ⟨by omega, World.ownsRow_nil _ _ _ _, hW2⟩ ?_
    rintro ⟨j, s⟩ w4 ⟨hj, ho4, hW4⟩
    dsimp only at *
    refine RunR ?_
    refine Br.dec (fun h => ?_) (fun h => ?_)
    · have hx : (k + i) ^^^ j < 16 := Nat.xor_lt_two_pow (n := 4) (by omega) (by omega)
      refine RunR ?_
      refine Bt.xorI (k + i) j (by omega) rfl (by omega) (by omega) ?_
      conv => whnf
      refine RunR ?_
      refine (ribN_fn ((k + i) ^^^ j) (by omega) w4).mono fun r w5 ⟨hw, hr⟩ => ?_
      subst hr; subst hw
      conv => whnf
      refine Rv.build ttOk tl22 tl5 rfl rfl (by simp [cellsL, u8]) (by decide) (by decide) fun w6 ho6 hg6 _ => ?_
      conv => whnf
      refine Rv.append' ttOk tl22 tl5 rfl (by decide) (own_keep0 ho4 hg6) (SlN.of_own ho6) (by simp [cellsL, u8, Value.oneCell']) (by simp only [maxLen]; omega) (by omega) (Nat.le_trans hW4.size hg6.size) fun v7 w7 ho7 hg7 hb7 => ?_
      conv => whnf
      refine RunR ?_
      refine ⟨(j + 1, v7), ⟨rfl, rfl, rfl, rfl, rfl, rfl, trivial⟩, ⟨by dsimp only; omega, ?_, below_push ho4 hW4 (Nat.le_refl _) hg6 hg7⟩, (by first | omega | (dsimp only; omega))⟩
      dsimp only
      rw [rcodeRow_take k i j (by omega), bv_append]
      simpa [cellsL, bv, u8] using ho7
    · obtain rfl : j = k := by omega
      rw [List.take_of_length_le (by simp [rcodeRow])] at ho4
      obtain ⟨us, hmo2, hmi2⟩ := hm.of
      have hmo := own_below hmo2 hW4 (Nat.le_refl _)
      have hmi := hmi2.below hW4
      have hsep := hmi2.fresh ho4
      have hW5 := hW.trans (hW4.mono hW.size)
      rw [rcodeM_len] at hmo
      obtain ⟨q1, q2, rfl⟩ := (Sl.of_own ho4).shape
      refine RunR ?_
      refine Rv.build ttOk tl29 tl22 rfl rfl (by simp [cellsL]) (by decide) (by decide) fun w5 ho5 hg5 _ => ?_
      conv => whnf
      refine Rv.append' ttOk tl29 tl22 rfl (by decide) (own_keep0 hmo hg5) (SlN.of_own ho5) (by simp [cellsL, Value.oneCell']) (by simp only [maxLen]; omega) (by omega) (Nat.le_trans hW5.size hg5.size) fun v6 w6 ho6 hg6 hb6 => ?_
      have hi6 := InsO.pushed hmo hmi (l := rcodeRow j i) (by rw [rcodeRow_len]; exact own_mono ho4 hW.size) hsep hg5 hg6
      conv => whnf
      refine RunR ?_
      refine ⟨(i + 1, v6), ⟨rfl, rfl, rfl, rfl, trivial⟩, ⟨by dsimp only; omega, ⟨_, ?_, by dsimp only; rw [rcodeM_succ]; exact hi6⟩, below_push hmo hW5 (Nat.le_refl _) hg5 hg6⟩, (by first | omega | (dsimp only; omega))⟩
      dsimp only
      rw [rcodeM_len, ← Nat.add_assoc]
      simpa [cellsL] using ho6
  · obtain rfl : i = m := by omega
    refine RunR ?_
    exact ⟨_, rfl, hm, hW⟩

theorem codeR_bad (k m : Int) (h : k < 1 ∨ m < 0 ∨ 14 < k ∨ 14 - k < m) (hk : -1000 < k ∧ k < 1000) (hm : -1000 < m ∧ m < 1000) (w : World) :
    Fn Tryd.prog 37 #[.int .i64 k, .int .i64 m] w fun r w' => r = .tuple #[.slice none 0 0, .int .i64 1] ∧ w' = w := by
  refine Fn.mk Tryd.func37 rfl (by kernel_rfl) Tryd.ntmps37 rfl (by rw [Tryd.results37]) ?_
  by_cases h1 : k < 1
  · refine RunR ?_
    exact ⟨rfl, rfl⟩
  · by_cases h2 : m < 0
    · refine RunR ?_
      exact ⟨rfl, rfl⟩
    · by_cases h3 : 14 < k
      · refine RunR ?_
        exact ⟨rfl, rfl⟩
      · by_cases h4 : 14 < m
        · refine RunR ?_
          exact ⟨rfl, rfl⟩
        · refine RunR ?_
          exact ⟨rfl, rfl⟩

end Go.Proofs.YtlldgodjfpgbcaaDoor
namespace Go.Proofs.YtlldgodjfpgbcaaDoor
open Go.RowKit
set_option linter.unusedVariables false
set_option linter.unusedSimpArgs false
set_option maxRecDepth 100000

def rblendB (n : Nat) (c : List UInt8) (D : List (List UInt8)) : List UInt8 := (c.zip D).foldl (fun s p => List.zipWith (fun a b => a ^^^ rmb p.1 b) s p.2) (List.replicate n 0)
theorem rblendB_take (n : Nat) (c : List UInt8) (D : List (List UInt8)) (j : Nat) (hc : j < c.length) (hd : j < D.length) : rblendB n (c.take (j + 1)) D = List.zipWith (fun a b => a ^^^ rmb c[j] b) (rblendB n (c.take j) D) D[j] := by
  unfold rblendB
  rw [zip_take_succ c D j hc hd, List.foldl_append]
  rfl
theorem rblendB_len (n : Nat) (c : List UInt8) (D : List (List UInt8)) (hD : ∀ l ∈ D, l.length = n) : (rblendB n c D).length = n := by
  unfold rblendB
  have : ∀ (l : List (UInt8 × List UInt8)) (s : List UInt8), (∀ p ∈ l, p.2.length = n) → s.length = n → (l.foldl (fun s p => List.zipWith (fun a b => a ^^^ rmb p.1 b) s p.2) s).length = n := by
    intro l
    induction l with
    | nil => intro s _ hs; exact hs
    | cons p l ih =>
      intro s hp hs
      refine ih _ (fun q hq => hp q (by simp [hq])) ?_
      simp [hs, hp p (by simp)]
  exact this _ _ (fun p hp => hD _ (List.of_mem_zip hp).2) (by simp)
theorem set_over {α : Type} (A B : List α) (k : Nat) (x : α) (hk : k = A.length) (hb : 0 < B.length) : (A ++ B).set k x = (A ++ [x]) ++ B.drop 1 := by
  subst hk
  cases B with
  | nil => simp at hb
  | cons b B => simp

theorem u8_xor (a b : UInt8) : (.int .u8 ((a.toNat ^^^ b.toNat : Nat) : Int) : Value) = u8 (a ^^^ b) := by
  rw [u8_ofNat _ (xor_lt8 (u8lt _) (u8lt _)), ← UInt8.toNat_xor, UInt8.ofNat_toNat]

theorem blend_fn (vc vd : Value) (c : List UInt8) (D : List (List UInt8)) (n : Nat) (h0 : 0 < D.length) (hD : ∀ l ∈ D, l.length = n) (hC : c.length = D.length) (hl : n ≤ 140737488355328) (w : World) (hc : Sl w vc (bv c)) (hdd : SS w vd D) :
    Fn Tryd.prog 40 #[vc, vd] w fun r w' => w'.ownsRow w.heap.size 5 1 r n (bv (rblendB n c D)) ∧ Below w.heap.size w w' := by
  obtain ⟨ds, hds, hdi⟩ := hdd.of
  have hdl := hdi.len
  have hle1 := hc.le
  have hle2 := hds.le
  obtain ⟨a, cp, rfl⟩ := hc.shape
  obtain ⟨a2, cp2, rfl⟩ := hds.shape
  rw [hdl] at hds hle2 ⊢
  simp only [bv_length] at *
  obtain ⟨u0, hu0, hs0⟩ := hdi.get (List.getElem?_eq_getElem h0)
  have e0 : D[0].length = n := hD _ (List.getElem_mem h0)
  obtain ⟨a0, cp0, rfl⟩ := hs0.shape
  obtain ⟨b1, o1, rfl, hr1⟩ := hds.addr (by omega)
  rw [bv_length, e0] at hu0 hs0
  refine Fn.mk Tryd.func40 rfl (by kernel_rfl) Tryd.ntmps40 rfl (by rw [Tryd.results40]) ?_
  refine RunR ?_
  intro o' ho'
  conv => whnf
  refine Ld.one ttOk tl22 rfl (hr1.at hu0 (by omega)) ?_
  conv => whnf
  refine RunR ?_
  refine Rv.make ttOk n n tl22 tl5 rfl rfl rfl (Nat.le_refl _) (by omega) (by simp only [maxLen]; omega) fun w1 ho1 hg1 => ?_
  conv => whnf
  refine RunR ?_
  refine V.loop (α := Nat) (fun j => [(0, .slice a c.length cp), (1, .slice (some ⟨b1, o1, none⟩) D.length cp2), (5, .slice (some ⟨w.heap.size, 0, none⟩) n n), (6, .int .i64 j)])
    (fun j w' => j ≤ D.length ∧ w'.ownsRow w.heap.size 5 1 (.slice (some ⟨w.heap.size, 0, none⟩) n n) n (bv (rblendB n (c.take j) D)) ∧ Below w.heap.size w w')
    (fun j => D.length - j) 0 ⟨rfl, rfl, rfl, rfl, trivial⟩ ⟨by omega, by simpa [rblendB, bv, u8] using ho1, below_of_grown0 hg1 (Nat.le_refl _)⟩ ?_
  rintro j w2 ⟨hj, ho2, hW2⟩
  refine RunR ?_
  refine Br.dec (fun h => ?_) (fun h => ?_)
  · have hjl : j < D.length := by omega
    have hjc : j < c.length := by omega
    have eD : D[j].length = n := hD _ (List.getElem_mem hjl)
    have eB := rblendB_len n (c.take j) D hD
    obtain ⟨uj, huj, hsj⟩ := hdi.get (List.getElem?_eq_getElem hjl)
    obtain ⟨b3, o3, rfl, hr3⟩ := hc.addr (by omega)
    refine RunR ?_
    refine V.loop (α := Nat) (fun x => [(0, .slice (some ⟨b3, o3, none⟩) c.length cp), (1, .slice (some ⟨b1, o1, none⟩) D.length cp2), (5, .slice (some ⟨w.heap.size, 0, none⟩) n n), (6, .int .i64 j), (7, .int .i64 x)])
      (fun x w' => x ≤ n ∧ w'.ownsRow w.heap.size 5 1 (.slice (some ⟨w.heap.size, 0, none⟩) n n) n (bv ((List.zipWith (fun a b => a ^^^ rmb c[j] b) (rblendB n (c.take j) D) D[j]).take x) ++ bv ((rblendB n (c.take j) D).drop x)) ∧ Below w.heap.size w w')
      (fun x => n - x) 0 ⟨rfl, rfl, rfl, rfl, rfl, trivial⟩ ⟨by omega, by simpa using ho2, hW2⟩ ?_
    rintro x w3 ⟨hx, ho3, hW3⟩
    refine RunR ?_
    refine Br.dec (fun h => ?_) (fun h => ?_)
    · have hxl : x < n := by omega
      have hc3 := hc.below hW3
      have hds3 := hds.below hW3
      have hsj3 := hsj.below hW3
      obtain ⟨a5, cp5, rfl⟩ := hsj3.shape
      rw [bv_length, eD] at huj hsj hsj3
      obtain ⟨b5, o5, rfl, hr5⟩ := hsj3.addr (by omega)
      obtain ⟨b9, o9, e9, hr9⟩ := hds3.addr (by omega)
      injection e9 with e9; injection e9 with e9a e9b; subst e9a; subst e9b
      obtain ⟨b8, o8, e8, hr8⟩ := hc3.addr (by omega)
      injection e8 with e8; injection e8 with e8a e8b; subst e8a; subst e8b
      have hcell : (bv ((List.zipWith (fun a b => a ^^^ rmb c[j] b) (rblendB n (c.take j) D) D[j]).take x) ++ bv ((rblendB n (c.take j) D).drop x))[x]? = some (u8 (rblendB n (c.take j) D)[x]) := by
        rw [List.getElem?_append_right (by simp; omega)]
        simp [bv, eB, eD, Nat.min_eq_left (Nat.le_of_lt hxl), List.getElem?_eq_getElem (by omega : x < (rblendB n (c.take j) D).length)]
      refine RunR ?_
      refine V.tail ttOk 20 mixed (by kernel_rfl) ?_
      conv => whnf
      refine RunR ?_
      intro p1 hp1
      obtain rfl : p1 = x := by omega
      conv => whnf
      refine Lq.one ttOk tl5 rfl (v := u8 (rblendB n (c.take j) D)[p1]) (fun w' hw => by subst hw; exact (ho3.cellAt p1 (by omega)).trans hcell) ?_
      conv => whnf
      refine RunR ?_
      intro p2 hp2
      conv => whnf
      refine Lq.one ttOk tl5 rfl (Sl.lq hr8 (i := j) (x := u8 c[j]) (by simp [bv, hjc]) (by omega)) ?_
      conv => whnf
      refine RunR ?_
      intro p3 hp3
      conv => whnf
      refine Lq.one ttOk tl22 rfl (Sl.lq hr9 huj (by omega)) ?_
      conv => whnf
      refine RunR ?_
      intro p4 hp4
      conv => whnf
      refine Lq.one ttOk tl5 rfl (Sl.lq hr5 (i := p1) (x := u8 D[j][p1]) (by simp [bv, eD, hxl]) (by omega)) ?_
      conv => whnf
      refine RunR ?_
      refine Fq.mk (u8 (rmb c[j] D[j][p1])) (fun w' hw => (rmb_fn c[j] D[j][p1] w').mono fun r w'' ⟨q1, q2⟩ => ⟨q2, q1.trans hw⟩) ?_
      conv => whnf
      refine Bt.xor8 (rblendB n (c.take j) D)[p1].toNat (rmb c[j] D[j][p1]).toNat rfl rfl (u8lt _) (u8lt _) ?_
      conv => whnf
      refine RunR ?_
      intro p5 hp5
      obtain rfl : p5 = p1 := by omega
      conv => whnf
      refine St.own tl5 rfl ho3.drew hxl rfl rfl ttOk fun w4 ho4 hg4 => ?_
      conv => whnf
      refine RunR ?_
      refine ⟨p5 + 1, ⟨rfl, rfl, rfl, rfl, rfl, trivial⟩, ⟨by omega, ?_, hW3.drew.trans (below_own_store hg4 hW3.size (Nat.le_refl _))⟩, (by first | omega | (dsimp only; omega))⟩
      rw [u8_xor, set_over _ _ _ _ (by simp; omega) (by simp; omega), ← bv_drop, List.drop_drop] at ho4
      rw [bv_zip_succ (fun a b => a ^^^ rmb c[j] b) (by omega) (by omega)]
      exact ho4
    · obtain rfl : n = x := by omega
      refine RunR ?_
      refine ⟨j + 1, ⟨rfl, rfl, rfl, rfl, trivial⟩, ⟨by omega, ?_, hW3⟩, (by first | omega | (dsimp only; omega))⟩
      rw [rblendB_take _ c D j hjc hjl]
      rw [List.take_of_length_le (by simp [eB, eD]), List.drop_eq_nil_of_le (by omega)] at ho3
      simpa using ho3
  · obtain rfl : j = D.length := by omega
    refine RunR ?_
    rw [← hC, List.take_length] at ho2
    exact ⟨ho2, hW2⟩

def rsumsB (n m : Nat) (D : List (List UInt8)) : List (List UInt8) := (List.range m).map fun i => rblendB n (rcodeRow D.length i) D
theorem rcodeM_get (k m i : Nat) (h : i < m) : (rcodeM k m)[k + i]? = some (rcodeRow k i) := by
  unfold rcodeM
  rw [List.getElem?_append_right (by simp [oneM])]
  simp [oneM, h]

end Go.Proofs.YtlldgodjfpgbcaaDoor
