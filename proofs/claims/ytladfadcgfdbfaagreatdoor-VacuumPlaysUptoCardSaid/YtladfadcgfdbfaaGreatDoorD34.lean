/- garnerref11: Size, Decode. garnerref11: Encode. Nothing is claimed here. -/
import Derived.Test.YtladfadcgfdbfaaGreatDoorD33
import Derived.Test.YtladfadcgfdbfaaGreatDoorD12
namespace Go.Proofs.YtladfadcgfdbfaaGreatDoor
open Go.RowKit
set_option linter.unusedVariables false
set_option linter.unusedSimpArgs false
set_option maxRecDepth 100000
theorem zboolE {a b : Bool} (h : a = b) : some (Value.bool a) = some (Value.bool b) := by rw [h]
theorem ndSizeR_fn (n : Nat) (hn : n ≤ 65536) (w : World) : Fn Tryz.prog 150 #[.int .i64 (n : Int)] w fun r w' => r = .int .i64 (szN n : Nat) ∧ w' = w := by
  have hL := Sep.start Tryz.prog w
  have hB := Nat.le_refl w.heap.size
  refine Fn.mk Tryz.func150 rfl (by kernel_rfl) Tryz.ntmps150 rfl (by rw [Tryz.results150]) ?_
  repeat (first | (refine RunH ?_; intro w hL hB; try clear w) | (refine Both.mk ?_ ?_ <;> conv => whnf) | fail)
  refine Quo.at (n + 35) 8 (by omega) rfl (by decide) ?_
  conv => whnf
  repeat (first | (refine RunH ?_; intro w hL hB; try clear w) | (refine Both.mk ?_ ?_ <;> conv => whnf) | fail)
  refine ⟨vintv ?_, rfl⟩
  rw [szN]; omega
set_option maxHeartbeats 8000000 in
theorem decNR_fn (v : Value) (b : List UInt8) (w0 : World) (hs : Sl w0 v (bv b)) :
    Fn Tryz.prog 128 #[v] w0 fun r w' => decNPost b r w0 w' ∧ Below w0.heap.size w0 w' := by
  have hL := Sep.start Tryz.prog w0
  have hB := Nat.le_refl w0.heap.size
  have hle := hs.le
  obtain ⟨va, vc, rfl⟩ := hs.shape
  simp only [bv_length] at *
  by_cases hlt : b.length < 24
  · have e1 : dE b = 2 := if_pos hlt
    refine Fn.mk Tryz.func128 rfl (by kernel_rfl) Tryz.ntmps128 rfl (by rw [Tryz.results128]) ?_
    repeat (first | (refine RunH ?_; intro w hL hB; try clear w) | (refine Both.mk ?_ ?_ <;> conv => whnf) | fail)
    (refine Nw.sep hL hB (fun t2 w hL hB ht2 => ?_); conv => whnf)
    repeat (first | (refine RunH ?_; intro w hL hB; try clear w) | (refine Both.mk ?_ ?_ <;> conv => whnf) | fail)
    exact ⟨.inl ⟨.inl e1, by rw [e1]; rfl⟩, hL.below⟩
  obtain ⟨bb, o, rfl, hrow⟩ := hs.addr (by omega)
  have hlen := hs.len
  simp only [bv_length] at hlen
  have hg : ∀ i, i < b.length → b[i]? = some (b.getD i 0) := fun i hi => by simp [List.getD, List.getElem?_eq_getElem hi]
  have p1 : ∀ {L : List Res} (w' : World), Sep Tryz.prog w0.heap.size w0 w' L → Sl w' (.slice (some ⟨bb, o, none⟩) b.length vc) (bv b) := fun w' h => h.sl hs rfl
  have hk := dKey_lt b
  have hc : dCook b < 4294967296 := win4_lt b 12
  have hz : dSize b < 4294967296 := win4_lt b 16
  have h20 : ofB (Go.Proofs.YtladfadcgfdbfaaGreatDoor.win b 20 4) < 4294967296 := win4_lt b 20
  have hcr := crc_lt (b.take 20)
  have hform := form_iff (b := b) (by omega)
  have hq : ∀ i (K : Value → Prop) (C : World → Prop), (∀ x, C x → Sep Tryz.prog w0.heap.size w0 x []) → ∀ o', o' = o + i → i < b.length → K (u8 (b.getD i 0)) → Lq Tryz.prog C 5 ⟨bb, o', none⟩ K := fun i K C hC o' ho' hi hK =>
    Lq.of_class (fun x hx => Ld.row1 ttOk (p1 x (hC x hx)).toN.rowOf (k := i) tl5 rfl (bv_get (hg i hi)) ho' rfl) hK
  refine Fn.mk Tryz.func128 rfl (by kernel_rfl) Tryz.ntmps128 rfl (by rw [Tryz.results128]) ?_
  repeat (first | (refine RunH ?_; intro w hL hB; try clear w) | (refine Both.mk ?_ ?_ <;> conv => whnf) | fail)
  (refine Nw.sep hL hB (fun t2 w hL hB ht2 => ?_); conv => whnf)
  repeat (first | (refine RunH ?_; intro w hL hB; try clear w) | (refine Both.mk ?_ ?_ <;> conv => whnf) | fail)
  intro o1 n1 c1 z1 z2 z3 z4
  conv => whnf
  repeat (first | (refine RunH ?_; intro w hL hB; try clear w) | (refine Both.mk ?_ ?_ <;> conv => whnf) | fail)
  refine (get32Rm (l := b.drop 16) (by rw [bv_drop]; exact (p1 _ hL).drop (k := 16) (by rw [bv_length]; omega) (by omega) (by omega) (by omega)) (by simp; omega)).mono fun r w ⟨hr, hw⟩ => ?_
  rw [show ofB ((b.drop 16).take 4) = dSize b from rfl] at hr
  subst hr
  replace hL := hL.call hB (Turns.of_below hw)
  replace hB := Nat.le_trans hB hw.size
  conv => whnf
  have u8n : ∀ (x y : UInt8), x.toNat = y.toNat → x = y := fun x y h => UInt8.toNat_inj.1 h
  have hsz := szN_le (dSize b)
  repeat (first | (refine RunH ?_; intro w hL hB; try clear w) | (refine Both.mk ?_ ?_ <;> conv => whnf) | fail)
  refine V.join (α := Bool) (fun z => [(0, .slice (some ⟨bb, o, none⟩) b.length vc), (2, .pointer (some ⟨t2, 0, none⟩)), (3, .int .i64 0), (4, .int .i64 0), (5, .int .i64 (dSize b : Int)), (63, .bool z)])
    (fun z w' => (z = true ↔ badH b) ∧ w0.heap.size ≤ w'.heap.size ∧ Sep Tryz.prog w0.heap.size w0 w' [.blk t2 [.int .u64 0, .int .u32 0, .bool false, .slice none 0 0] 42]) ?_ ?_
  · have yes : badH b → ∀ {w : World}, w0.heap.size ≤ w.heap.size → Sep Tryz.prog w0.heap.size w0 w [.blk t2 [.int .u64 0, .int .u32 0, .bool false, .slice none 0 0] 42] → (true = true ↔ badH b) ∧ w0.heap.size ≤ w.heap.size ∧ Sep Tryz.prog w0.heap.size w0 w [.blk t2 [.int .u64 0, .int .u32 0, .bool false, .slice none 0 0] 42] := fun h w h1 h2 => ⟨⟨fun _ => h, fun _ => rfl⟩, h1, h2⟩
    repeat (first | (refine RunK ?_; intro w hL hB; try clear w) | (refine V.tree ttOk (fun x0 => Sep Tryz.prog _ w0 x0 []) (.q 0 (.q 1 (.q 2 (.q 3 (.q 4 (.q 5 (.q 6 (.q 7 (.q 8 (.q 9 (.q 10 (.q 11 (.q 12 (.q 13 (.q 14 (.q 15 (.q 16 (.q 17 (.q 18 (.q 19 (.q 20 (.q 21 (.q 22 (.q 23 (.q 24 (.q 26 (.q 27 (.alt 25 (.alt 28 (.q 29 (.q 30 (.q 31 (.q 32 (.q 33 (.q 34 (.q 35 (.q 36 (.q 37 (.q 38 (.q 39 (.q 40 (.q 41 (.q 42 (.q 43 (.q 44 .nil)))))))))))))))) .stop) .stop)))))))))))))))))))))))))))) mixed (by decide +kernel) (hL.drew.sub (List.nil_sublist _)) ?_; replace hL := hL.drew; conv => whnf) | (refine V.tailA ttOk mixed (by decide +kernel) ?_; replace hL := hL.drew; conv => whnf) | (refine Both.mk ?_ ?_ <;> conv => whnf) | fail)
    intro o2 ho2
    conv => whnf
    repeat (first | (refine RunH ?_; intro w hL hB; try clear w) | (refine Both.mk ?_ ?_ <;> conv => whnf) | fail)
    refine hq 0 _ _ (fun _ h => h) o2 (by omega) (by omega) ?_
    conv => whnf
    by_cases q0 : (b.getD 0 0).toNat = 110
    case neg =>
      repeat (first | (refine RunH ?_; intro w hL hB; try clear w) | (refine Both.mk ?_ ?_ <;> conv => whnf) | fail)
      exact ⟨true, ⟨rfl, rfl, rfl, rfl, rfl, rfl, trivial⟩, yes (.inl fun h => q0 (by rw [h]; rfl)) hB hL⟩
    repeat (first | (refine RunH ?_; intro w hL hB; try clear w) | (refine Both.mk ?_ ?_ <;> conv => whnf) | fail)
    intro o3 ho3
    conv => whnf
    repeat (first | (refine RunH ?_; intro w hL hB; try clear w) | (refine Both.mk ?_ ?_ <;> conv => whnf) | fail)
    refine hq 1 _ _ (fun _ h => h) o3 (by omega) (by omega) ?_
    conv => whnf
    by_cases q1 : (b.getD 1 0).toNat = 100
    case neg =>
      repeat (first | (refine RunH ?_; intro w hL hB; try clear w) | (refine Both.mk ?_ ?_ <;> conv => whnf) | fail)
      exact ⟨true, ⟨rfl, rfl, rfl, rfl, rfl, rfl, trivial⟩, yes (.inr (.inl fun h => q1 (by rw [h]; rfl))) hB hL⟩
    repeat (first | (refine RunH ?_; intro w hL hB; try clear w) | (refine Both.mk ?_ ?_ <;> conv => whnf) | fail)
    intro o4 ho4
    conv => whnf
    repeat (first | (refine RunH ?_; intro w hL hB; try clear w) | (refine Both.mk ?_ ?_ <;> conv => whnf) | fail)
    refine hq 2 _ _ (fun _ h => h) o4 (by omega) (by omega) ?_
    conv => whnf
    by_cases q2 : (b.getD 2 0).toNat ≤ 1
    case neg =>
      repeat (first | (refine RunH ?_; intro w hL hB; try clear w) | (refine Both.mk ?_ ?_ <;> conv => whnf) | fail)
      exact ⟨true, ⟨rfl, rfl, rfl, rfl, rfl, rfl, trivial⟩, yes (.inr (.inr (.inl (by omega)))) hB hL⟩
    repeat (first | (refine RunH ?_; intro w hL hB; try clear w) | (refine Both.mk ?_ ?_ <;> conv => whnf) | fail)
    intro o5 ho5
    conv => whnf
    repeat (first | (refine RunH ?_; intro w hL hB; try clear w) | (refine Both.mk ?_ ?_ <;> conv => whnf) | fail)
    refine hq 3 _ _ (fun _ h => h) o5 (by omega) (by omega) ?_
    conv => whnf
    by_cases q3 : (b.getD 3 0).toNat = 0
    case neg =>
      repeat (first | (refine RunH ?_; intro w hL hB; try clear w) | (refine Both.mk ?_ ?_ <;> conv => whnf) | fail)
      exact ⟨true, ⟨rfl, rfl, rfl, rfl, rfl, rfl, trivial⟩, yes (.inr (.inr (.inr (.inl fun h => q3 (by rw [h]; rfl))))) hB hL⟩
    repeat (first | (refine RunH ?_; intro w hL hB; try clear w) | (refine Both.mk ?_ ?_ <;> conv => whnf) | fail)
    intro o6 n6 c6 z1 z2 z3 z4
    conv => whnf
    repeat (first | (refine RunH ?_; intro w hL hB; try clear w) | (refine Both.mk ?_ ?_ <;> conv => whnf) | fail)
    intro n7 c7 z5 z6
    conv => whnf
    repeat (first | (refine RunH ?_; intro w hL hB; try clear w) | (refine Both.mk ?_ ?_ <;> conv => whnf) | fail)
    obtain rfl : n7 = 20 := by omega
    refine (get32Rm (l := b.drop 20) (by rw [bv_drop]; exact (p1 _ hL).drop (k := 20) (by rw [bv_length]; omega) (by omega) (by omega) (by omega)) (by simp; omega)).mono fun r w ⟨hr, hw⟩ => ?_
    rw [show ofB ((b.drop 20).take 4) = ofB (Go.Proofs.YtladfadcgfdbfaaGreatDoor.win b 20 4) from rfl] at hr
    subst hr
    replace hL := hL.call hB (Turns.of_below hw)
    replace hB := Nat.le_trans hB hw.size
    conv => whnf
    refine ⟨hL.sub (List.nil_sublist _), ?_⟩
    conv => whnf
    repeat (first | (refine RunH ?_; intro w hL hB; try clear w) | (refine Both.mk ?_ ?_ <;> conv => whnf) | fail)
    refine (sumR_fn _ (b.take 20) _ (by rw [bv_take]; exact (p1 _ hL).take (k := 20) (by rw [bv_length]; omega) (by omega) (by omega))).mono fun r w ⟨hr, hw⟩ => ?_
    subst hr
    replace hL := hL.call hB (Turns.of_below hw)
    replace hB := Nat.le_trans hB hw.size
    conv => whnf
    refine ⟨hL.sub (List.nil_sublist _), ?_⟩
    conv => whnf
    by_cases q5 : ofB (Go.Proofs.YtladfadcgfdbfaaGreatDoor.win b 20 4) = crc (b.take 20)
    case neg =>
      repeat (first | (refine RunH ?_; intro w hL hB; try clear w) | (refine Both.mk ?_ ?_ <;> conv => whnf) | fail)
      exact ⟨true, ⟨rfl, rfl, rfl, rfl, rfl, rfl, trivial⟩, yes (.inr (.inr (.inr (.inr (.inl q5))))) hB hL⟩
    by_cases q6 : 65536 < dSize b
    case pos =>
      repeat (first | (refine RunH ?_; intro w hL hB; try clear w) | (refine Both.mk ?_ ?_ <;> conv => whnf) | fail)
      exact ⟨true, ⟨rfl, rfl, rfl, rfl, rfl, rfl, trivial⟩, yes (.inr (.inr (.inr (.inr (.inr (.inl q6)))))) hB hL⟩
    repeat (first | (refine RunH ?_; intro w hL hB; try clear w) | (refine Both.mk ?_ ?_ <;> conv => whnf) | fail)
    intro o8 ho8
    conv => whnf
    repeat (first | (refine RunH ?_; intro w hL hB; try clear w) | (refine Both.mk ?_ ?_ <;> conv => whnf) | fail)
    refine hq 2 _ _ (fun _ h => h) o8 (by omega) (by omega) ?_
    conv => whnf
    by_cases q7 : (b.getD 2 0).toNat = 1
    · by_cases q8 : 0 < dSize b
      · repeat (first | (refine RunH ?_; intro w hL hB; try clear w) | (refine Both.mk ?_ ?_ <;> conv => whnf) | fail)
        exact ⟨true, ⟨rfl, rfl, rfl, rfl, rfl, zboolE (decide_eq_true (by omega)), trivial⟩, yes (.inr (.inr (.inr (.inr (.inr (.inr ⟨u8n _ _ q7, q8⟩)))))) hB hL⟩
      · repeat (first | (refine RunH ?_; intro w hL hB; try clear w) | (refine Both.mk ?_ ?_ <;> conv => whnf) | fail)
        refine ⟨false, ⟨rfl, rfl, rfl, rfl, rfl, zboolE (decide_eq_false (by omega)), trivial⟩, ⟨(fun h => by cases h), fun h => ?_⟩, hB, hL⟩
        rcases h with h | h | h | h | h | h | h
        · exact absurd (u8n _ _ q0) h
        · exact absurd (u8n _ _ q1) h
        · omega
        · exact absurd (u8n _ _ q3) h
        · exact absurd q5 h
        · exact absurd h q6
        · exact absurd h.2 q8
    · repeat (first | (refine RunH ?_; intro w hL hB; try clear w) | (refine Both.mk ?_ ?_ <;> conv => whnf) | fail)
      refine ⟨false, ⟨rfl, rfl, rfl, rfl, rfl, rfl, trivial⟩, ⟨(fun h => by cases h), fun h => ?_⟩, hB, hL⟩
      rcases h with h | h | h | h | h | h | h
      · exact absurd (u8n _ _ q0) h
      · exact absurd (u8n _ _ q1) h
      · omega
      · exact absurd (u8n _ _ q3) h
      · exact absurd q5 h
      · exact absurd h q6
      · exact absurd (by rw [h.1]; rfl) q7
  clear hL hB
  rintro z w ⟨hz', hB, hL⟩
  cases z with
  | true =>
    have e1 : dE b = 3 := by rw [dE, if_neg hlt, if_pos (hform.2 (hz'.1 rfl))]
    repeat (first | (refine RunH ?_; intro w hL hB; try clear w) | (refine Both.mk ?_ ?_ <;> conv => whnf) | fail)
    exact ⟨.inl ⟨.inr e1, by rw [e1]; rfl⟩, hL.below⟩
  | false =>
  have hnf : ¬ dForm b := fun h => by have := hz'.2 (hform.1 h); cases this
  have h65 : ¬ 65536 < dSize b := fun h => hnf (.inl h)
  repeat (first | (refine RunH ?_; intro w hL hB; try clear w) | (refine Both.mk ?_ ?_ <;> conv => whnf) | fail)
  refine (ndSizeR_fn (dSize b) (by omega) _).mono fun r w' ⟨hr, hw⟩ => ?_
  subst hr; subst hw
  by_cases hsh : b.length < szN (dSize b)
  · have e1 : dE b = 2 := by rw [dE, if_neg hlt, if_neg hnf, if_pos hsh]
    conv => whnf
    repeat (first | (refine RunH ?_; intro w hL hB; try clear w) | (refine Both.mk ?_ ?_ <;> conv => whnf) | fail)
    exact ⟨.inl ⟨.inl e1, by rw [e1]; rfl⟩, hL.below⟩
  have hE : dE b = if dRest b ≠ dWant b then 4 else 0 := by rw [dE, if_neg hlt, if_neg hnf, if_neg hsh]
  have hrest := rest_iff (b := b) (by omega)
  conv => whnf
  repeat (first | (refine RunH ?_; intro w hL hB; try clear w) | (refine Both.mk ?_ ?_ <;> conv => whnf) | fail)
  refine V.join (α := Nat) (fun z => [(0, .slice (some ⟨bb, o, none⟩) b.length vc), (2, .pointer (some ⟨t2, 0, none⟩)), (3, .int .i64 0), (4, .int .i64 0), (5, .int .i64 (dSize b : Int)), (6, .int .i64 (szN (dSize b) : Nat)), (7, .pointer (some ⟨z, 0, none⟩))])
    (fun z w' => w0.heap.size ≤ w'.heap.size ∧ Sep Tryz.prog w0.heap.size w0 w' [.blk z [.int .u64 (dKey b : Int), .int .u32 (dCook b : Int), .bool (dDead b), .slice none 0 0] 42, .blk t2 [.int .u64 0, .int .u32 0, .bool false, .slice none 0 0] 42]) ?_ ?_
  · repeat (first | (refine RunK ?_; intro w hL hB; try clear w) | (refine V.treeA ttOk hL (.q 0 (.q 1 (.q 3 (.q 4 (.q 6 (.q 7 (.q 8 (.q 9 (.alt 2 (.alt 5 (.q 10 (.alt 11 (.alt 12 .nil .stop) .stop)) (.alt 11 (.alt 5 (.q 10 (.alt 12 .nil .stop)) .stop) .stop)) (.alt 11 (.alt 2 (.alt 5 (.q 10 (.alt 12 .nil .stop)) .stop) .stop) .stop)))))))))) mixed (by decide +kernel) ?_; replace hL := hL.drew; conv => whnf) | (refine V.tailA ttOk mixed (by decide +kernel) ?_; replace hL := hL.drew; conv => whnf) | (refine Both.mk ?_ ?_ <;> conv => whnf) | fail)
    intro o1 n1 c1 z1 z2 z3 z4
    conv => whnf
    repeat (first | (refine RunH ?_; intro w hL hB; try clear w) | (refine Both.mk ?_ ?_ <;> conv => whnf) | fail)
    intro o2 n2 c2 y1 y2 y3 y4
    conv => whnf
    repeat (first | (refine RunH ?_; intro w hL hB; try clear w) | (refine Both.mk ?_ ?_ <;> conv => whnf) | fail)
    intro o3 ho3
    conv => whnf
    refine hq 2 _ _ (fun _ h => h.sub (List.nil_sublist _)) o3 (by omega) (by omega) ?_
    conv => whnf
    repeat' (first | (refine RunH ?_; intro w hL hB; try clear w) | (refine Br.dec (fun hbr => ?_) (fun hbr => ?_) <;> conv => whnf) | (refine Br.mk (fun hbr => ?_) (fun hbr => ?_) <;> conv => whnf) | (refine Both.mk ?_ ?_ <;> conv => whnf) | (refine Nw.sep hL hB (fun t7 w hL hB ht7 => ?_); conv => whnf) | (refine (get64R_fn _ (b.drop 4) (by simp; omega) _ (by rw [bv_drop]; exact (p1 _ hL).drop (k := 4) (by rw [bv_length]; omega) (by omega) (by omega) (by omega))).mono fun r w hr => ?_; obtain ⟨hr, hw⟩ := hr; rw [show ofB ((b.drop 4).take 8) = dKey b from rfl] at hr; subst hr; replace hL := hL.call hB (Turns.of_below hw); replace hB := Nat.le_trans hB hw.size; conv => whnf) | (refine (get32Rm (l := b.drop 12) (by rw [bv_drop]; exact (p1 _ hL).drop (k := 12) (by rw [bv_length]; omega) (by omega) (by omega) (by omega)) (by simp; omega)).mono fun r w hr => ?_; obtain ⟨hr, hw⟩ := hr; rw [show ofB ((b.drop 12).take 4) = dCook b from rfl] at hr; subst hr; replace hL := hL.call hB (Turns.of_below hw); replace hB := Nat.le_trans hB hw.size; conv => whnf) | fail)
    all_goals exact ⟨t7, ⟨rfl, rfl, rfl, rfl, rfl, rfl, rfl, trivial⟩, hB, hL⟩
  clear hL hB
  rintro t7 w ⟨hB, hL⟩
  have hDl : (dData b).length = dSize b := win_len (by omega)
  have hD : ∀ {w : World} {L : List Res}, Sep Tryz.prog w0.heap.size w0 w L → ∀ (o' n' c' : Nat), n' = dSize b → o' = o + 24 → n' ≤ c' → c' + 24 ≤ vc → Sl w (.slice (some ⟨bb, o', none⟩) n' c') (bv (dData b)) := fun h o' n' c' e1 e2 e3 e4 => by
    subst e1; subst e2
    have := ((p1 _ h).drop (k := 24) (o' := o + 24) (n' := b.length - 24) (c' := vc - 24) (by rw [bv_length]; omega) (by omega) (by omega) (by omega)).take (k := dSize b) (c' := c') (by simp; omega) (by omega) (by omega)
    rwa [← bv_drop, ← bv_take] at this
  have hdd : ∀ i, i < b.length → ∀ {w : World} {L : List Res}, Sep Tryz.prog w0.heap.size w0 w L → ∀ (o' : Nat) (K : Value → Prop), o' = o + i → K (u8 (b.getD i 0)) → Ld Tryz.prog w 5 ⟨bb, o', none⟩ K := fun i hi w L h o' K ho' hK => Ld.row1 ttOk (p1 w h).toN.rowOf (k := i) tl5 rfl (bv_get (hg i hi)) ho' hK
  repeat (first | (refine RunH ?_; intro w hL hB; try clear w) | (refine Both.mk ?_ ?_ <;> conv => whnf) | fail)
  intro o1 n1 c1 z1 z2 z3 z4
  obtain rfl : n1 = dSize b := by omega
  conv => whnf
  repeat (first | (refine RunH ?_; intro w hL hB; try clear w) | (refine Both.mk ?_ ?_ <;> conv => whnf) | fail)
  intro o2 n2 c2 y1 y2 y3 y4
  conv => whnf
  repeat (first | (refine RunH ?_; intro w hL hB; try clear w) | (refine Both.mk ?_ ?_ <;> conv => whnf) | fail)
  refine (get32Rm (l := b.drop (24 + dSize b)) (by rw [bv_drop]; exact (p1 _ hL).drop (k := 24 + dSize b) (by rw [bv_length]; omega) (by omega) (by omega) (by omega)) (by simp; omega)).mono fun r w ⟨hr, hw⟩ => ?_
  rw [show ofB ((b.drop (24 + dSize b)).take 4) = ofB (Go.Proofs.YtladfadcgfdbfaaGreatDoor.win b (24 + dSize b) 4) from rfl] at hr
  subst hr
  replace hL := hL.call hB (Turns.of_below hw)
  replace hB := Nat.le_trans hB hw.size
  conv => whnf
  repeat (first | (refine RunH ?_; intro w hL hB; try clear w) | (refine Both.mk ?_ ?_ <;> conv => whnf) | fail)
  refine (sumR_fn _ (dData b) _ (hD hL _ _ _ rfl (by omega) (by omega) (by omega))).mono fun r w ⟨hr, hw⟩ => ?_
  subst hr
  replace hL := hL.call hB (Turns.of_below hw)
  replace hB := Nat.le_trans hB hw.size
  conv => whnf
  repeat (first | (refine RunH ?_; intro w hL hB; try clear w) | (refine Both.mk ?_ ?_ <;> conv => whnf) | fail)
  have hb0 : (!decide ((ofB (Go.Proofs.YtladfadcgfdbfaaGreatDoor.win b (24 + dSize b) 4) : Int) = (crc (dData b) : Int))) = true ↔ badR b (28 + dSize b) := by
    simp only [Bool.not_eq_true', decide_eq_false_iff_not]
    constructor
    · intro h; exact .inl fun e => h (by rw [e])
    · rintro (h | ⟨t, h1, h2, _⟩)
      · omega
      · omega
  refine V.loop (α := Nat × Bool) (fun z => [(0, .slice (some ⟨bb, o, none⟩) b.length vc), (2, .pointer (some ⟨t2, 0, none⟩)), (3, .int .i64 0), (4, .int .i64 0), (5, .int .i64 (dSize b : Int)), (6, .int .i64 (szN (dSize b) : Nat)), (7, .pointer (some ⟨t7, 0, none⟩)), (8, .slice (some ⟨bb, o1, none⟩) (dSize b) c1), (9, .bool z.2), (10, .int .i64 (z.1 : Int))])
    (fun z w' => 28 + dSize b ≤ z.1 ∧ z.1 ≤ szN (dSize b) ∧ (z.2 = true ↔ badR b z.1) ∧ w0.heap.size ≤ w'.heap.size ∧ Sep Tryz.prog w0.heap.size w0 w' [.blk t7 [.int .u64 (dKey b : Int), .int .u32 (dCook b : Int), .bool (dDead b), .slice none 0 0] 42, .blk t2 [.int .u64 0, .int .u32 0, .bool false, .slice none 0 0] 42])
    (fun z => szN (dSize b) - z.1) (28 + dSize b, !decide ((ofB (Go.Proofs.YtladfadcgfdbfaaGreatDoor.win b (24 + dSize b) 4) : Int) = (crc (dData b) : Int))) ⟨rfl, rfl, rfl, rfl, rfl, rfl, rfl, rfl, rfl, vint (by push_cast; rfl), trivial⟩ ⟨Nat.le_refl _, hsz.1, hb0, hB, hL⟩ ?_
  clear hL hB
  rintro ⟨i, bad⟩ w ⟨hi1, hi2, hbad, hB, hL⟩
  dsimp only at hi1 hi2 hbad hL ⊢
  have hsucc := badR_succ b i hi1
  by_cases hil : i < szN (dSize b)
  · cases bad with
    | true =>
      repeat (first | (refine RunH ?_; intro w hL hB; try clear w) | (refine Both.mk ?_ ?_ <;> conv => whnf) | fail)
      exact ⟨(i + 1, true), ⟨rfl, rfl, rfl, rfl, rfl, rfl, rfl, rfl, rfl, vint (by push_cast; rfl), trivial⟩, ⟨by dsimp only; omega, by dsimp only; omega, ⟨fun _ => hsucc.2 (.inl (hbad.1 rfl)), fun _ => rfl⟩, hB, hL⟩, (by first | omega | (dsimp only; omega))⟩
    | false =>
      repeat (first | (refine RunH ?_; intro w hL hB; try clear w) | (refine Both.mk ?_ ?_ <;> conv => whnf) | fail)
      intro o5 ho5
      conv => whnf
      repeat (first | (refine RunH ?_; intro w hL hB; try clear w) | (refine Both.mk ?_ ?_ <;> conv => whnf) | fail)
      refine hdd i (by omega) hL o5 _ (by omega) ?_
      conv => whnf
      repeat (first | (refine RunH ?_; intro w hL hB; try clear w) | (refine Both.mk ?_ ?_ <;> conv => whnf) | fail)
      have hnb : ¬ badR b i := fun h => by have := hbad.2 h; cases this
      have u8z : ((b.getD i 0).toNat : Int) = 0 ↔ b.getD i 0 = 0 := ⟨fun h => UInt8.toNat_inj.1 (by have : (0 : UInt8).toNat = 0 := rfl; omega), fun h => by rw [h]; rfl⟩
      refine ⟨(i + 1, !decide (((b.getD i 0).toNat : Int) = 0)), ⟨rfl, rfl, rfl, rfl, rfl, rfl, rfl, rfl, rfl, vint (by push_cast; rfl), trivial⟩, ⟨by dsimp only; omega, by dsimp only; omega, ?_, hB, hL⟩, (by first | omega | (dsimp only; omega))⟩
      simp only [Bool.not_eq_true', decide_eq_false_iff_not, u8z, hsucc]
      exact ⟨.inr, fun h => h.resolve_left hnb⟩
  · obtain rfl : i = szN (dSize b) := by omega
    cases bad with
    | true =>
      have e1 : dE b = 4 := by rw [hE, if_pos (hrest.2 (hbad.1 rfl))]
      repeat (first | (refine RunH ?_; intro w hL hB; try clear w) | (refine Both.mk ?_ ?_ <;> conv => whnf) | fail)
      exact ⟨.inr (.inl ⟨e1, rfl⟩), hL.below⟩
    | false =>
      have e1 : dE b = 0 := by rw [hE, if_neg (fun h => by have := hbad.2 (hrest.1 h); cases this)]
      repeat (first | (refine RunH ?_; intro w hL hB; try clear w) | (refine Both.mk ?_ ?_ <;> conv => whnf) | fail)
      refine Rv.buildS (len := 0) (vs := []) ttOk hL tl40 tl5 rfl rfl (by intro u hu; cases hu) (by decide) (by decide) hB fun bo w hL hB => ?_
      conv => whnf
      repeat (first | (refine RunH ?_; intro w hL hB; try clear w) | (refine Both.mk ?_ ?_ <;> conv => whnf) | fail)
      refine Rv.appendS ttOk hL tl40 tl5 rfl (by decide) 0 rfl (Sl.toN (hD hL _ _ _ rfl (by omega) (by omega) (by omega))) (bv_one _) (by simp only [maxLen, bv_length]; omega) (by rw [bv_length]; omega) hB fun vo w hL hB => ?_
      dsimp only [List.set] at hL
      rw [show List.flatMap cellsL [] ++ bv (dData b) = bv (dData b) from rfl, bv_length, Nat.zero_add] at hL
      obtain ⟨oa, oc, rfl⟩ := (show SlN _ 1 vo _ _ from hL.rowN (i := 0) rfl).shape
      conv => whnf
      repeat (first | (refine RunH ?_; intro w hL hB; try clear w) | (refine Both.mk ?_ ?_ <;> conv => whnf) | fail)
      refine ⟨.inr (.inr ⟨e1, _, rfl, ?_⟩), hL.below⟩
      exact hL.ownR (i := 0) rfl
end Go.Proofs.YtladfadcgfdbfaaGreatDoor
namespace Go.Proofs.YtladfadcgfdbfaaGreatDoor
open Go.RowKit
set_option linter.unusedVariables false
set_option linter.unusedSimpArgs false
set_option maxRecDepth 100000
theorem putB_div (v : Nat) : putB v 8 = putB (v / 4294967296) 4 ++ putB (v % 4294967296) 4 := by
  have e : ∀ x y : Nat, x % 256 = y % 256 → UInt8.ofNat x = UInt8.ofNat y := fun x y h => UInt8.toNat_inj.1 (by rw [UInt8.toNat_ofNat', UInt8.toNat_ofNat']; exact h)
  simp only [putB, List.cons_append, List.nil_append, List.cons.injEq, and_true]
  refine ⟨e _ _ ?_, e _ _ ?_, e _ _ ?_, e _ _ ?_, e _ _ ?_, e _ _ ?_, e _ _ ?_, e _ _ ?_⟩ <;> omega
set_option maxHeartbeats 2000000 in
theorem put64R_fn (v : Nat) (hv : v < 18446744073709551616) (w0 : World) :
    Fn Tryz.prog 126 #[.int .u64 v] w0 fun r w' => w'.ownsRow w0.heap.size 5 1 r (putB v 8).length (bv (putB v 8)) ∧ Below w0.heap.size w0 w' := by
  have hL := Sep.start Tryz.prog w0
  have hB := Nat.le_refl w0.heap.size
  rw [putB_div]
  refine Fn.mk Tryz.func126 rfl (by kernel_rfl) Tryz.ntmps126 rfl (by rw [Tryz.results126]) ?_
  repeat (first | (refine RunH ?_; intro w hL hB; try clear w) | (refine Both.mk ?_ ?_ <;> conv => whnf) | fail)
  refine Shr.u64 v 32 4294967296 rfl rfl (by decide) rfl ?_
  conv => whnf
  repeat (first | (refine RunH ?_; intro w hL hB; try clear w) | (refine Both.mk ?_ ?_ <;> conv => whnf) | fail)
  refine (put32Rm (v / 4294967296) (by omega) _).mono fun r w ⟨ho, hw⟩ => ?_
  replace hL := hL.addRow hB hw ho
  replace hB := Nat.le_trans hB hw.size
  clear ho hw
  generalize hX : putB (v / 4294967296) 4 = X at *
  have hXl : X.length = 4 := by rw [← hX]; exact putB_len _ _
  obtain ⟨ra, rc, rfl⟩ := (show SlN w 1 r _ _ from hL.rowN (i := 0) rfl).shape
  conv => whnf
  repeat (first | (refine RunH ?_; intro w hL hB; try clear w) | (refine Both.mk ?_ ?_ <;> conv => whnf) | fail)
  refine Ar.m32 v rfl ?_
  conv => whnf
  repeat (first | (refine RunH ?_; intro w hL hB; try clear w) | (refine Both.mk ?_ ?_ <;> conv => whnf) | fail)
  refine (put32Rm (v % 4294967296) (by omega) _).mono fun r w ⟨ho, hw⟩ => ?_
  replace hL := hL.addRow hB hw ho
  replace hB := Nat.le_trans hB hw.size
  clear ho hw
  generalize hY : putB (v % 4294967296) 4 = Y at *
  have hYl : Y.length = 4 := by rw [← hY]; exact putB_len _ _
  obtain ⟨ya, yc, rfl⟩ := (show SlN w 1 r _ _ from hL.rowN (i := 0) rfl).shape
  conv => whnf
  repeat (first | (refine RunH ?_; intro w hL hB; try clear w) | (refine Both.mk ?_ ?_ <;> conv => whnf) | fail)
  refine Rv.appendS ttOk hL tl40 tl5 rfl (by decide) 1 rfl (hL.rowN (i := 0) rfl) (bv_one _) (by simp only [maxLen]; first | omega | (simp only [List.length_append]; omega)) (by first | omega | (simp only [List.length_append]; omega)) hB fun vo w hL hB => ?_
  dsimp only [List.set] at hL
  rw [← bv_append, ← List.length_append] at hL
  conv => whnf
  repeat (first | (refine RunH ?_; intro w hL hB; try clear w) | (refine Both.mk ?_ ?_ <;> conv => whnf) | fail)
  exact ⟨hL.ownR (i := 1) rfl, hL.below⟩
set_option maxHeartbeats 4000000 in
theorem encNR_bad (key cook : Nat) (dead : Bool) (v : Value) (d : List UInt8) (w0 : World) (hs : Sl w0 v (bv d)) (hE : encNE dead d.length ≠ 0) :
    Fn Tryz.prog 86 #[.agg (ndC key cook dead v).toArray] w0 fun r w' => r = .tuple #[.slice none 0 0, .int .i64 (encNE dead d.length : Nat)] ∧ Below w0.heap.size w0 w' := by
  have hL := Sep.start Tryz.prog w0
  have hB := Nat.le_refl w0.heap.size
  have hle := hs.le
  obtain ⟨va, vc, rfl⟩ := hs.shape
  simp only [bv_length] at *
  rw [ndC]
  by_cases h1 : dead = true ∧ 0 < d.length
  · have e1 : encNE dead d.length = 1 := if_pos h1
    obtain ⟨rfl, h1⟩ := h1
    rw [e1]
    refine Fn.mk Tryz.func86 rfl (by kernel_rfl) Tryz.ntmps86 rfl (by rw [Tryz.results86]) ?_
    repeat (first | (refine RunH ?_; intro w hL hB; try clear w) | (refine Both.mk ?_ ?_ <;> conv => whnf) | fail)
    (refine Nw.sep hL hB (fun t1 w hL hB ht1 => ?_); conv => whnf)
    repeat (first | (refine RunH ?_; intro w hL hB; try clear w) | (refine Both.mk ?_ ?_ <;> conv => whnf) | fail)
    exact ⟨rfl, hL.below⟩
  by_cases h2 : 65536 < d.length
  · have e1 : encNE dead d.length = 5 := by rw [encNE, if_neg h1, if_pos h2]
    obtain rfl : dead = false := by cases dead; rfl; exact absurd ⟨rfl, by omega⟩ h1
    rw [e1]
    refine Fn.mk Tryz.func86 rfl (by kernel_rfl) Tryz.ntmps86 rfl (by rw [Tryz.results86]) ?_
    repeat (first | (refine RunH ?_; intro w hL hB; try clear w) | (refine Both.mk ?_ ?_ <;> conv => whnf) | fail)
    (refine Nw.sep hL hB (fun t1 w hL hB ht1 => ?_); conv => whnf)
    repeat (first | (refine RunH ?_; intro w hL hB; try clear w) | (refine Both.mk ?_ ?_ <;> conv => whnf) | fail)
    exact ⟨rfl, hL.below⟩
  exact absurd (by rw [encNE, if_neg h1, if_neg h2]) hE
set_option maxHeartbeats 8000000 in
theorem encNR_fn (key cook : Nat) (dead : Bool) (v : Value) (d : List UInt8) (hk : key < 18446744073709551616) (hc : cook < 4294967296) (w0 : World) (hs : Sl w0 v (bv d)) (hE : encNE dead d.length = 0) :
    Fn Tryz.prog 86 #[.agg (ndC key cook dead v).toArray] w0 fun r w' => ∃ u, r = .tuple #[u, .int .i64 0] ∧ w'.ownsRow w0.heap.size 5 1 u (encN key cook dead d).length (bv (encN key cook dead d)) ∧ Below w0.heap.size w0 w' := by
  have hL := Sep.start Tryz.prog w0
  have hB := Nat.le_refl w0.heap.size
  have hle := hs.le
  obtain ⟨va, vc, rfl⟩ := hs.shape
  simp only [bv_length] at *
  have h1 : ¬ (dead = true ∧ 0 < d.length) := fun h => by rw [encNE, if_pos h] at hE; cases hE
  have h2 : ¬ 65536 < d.length := fun h => by rw [encNE, if_neg h1, if_pos h] at hE; cases hE
  have hsz := szN_le d.length
  have e24 := hd24_len key cook dead d.length
  have hend : (hd24 key cook dead d.length ++ d ++ putB (crc d) 4 ++ List.replicate (szN d.length - (28 + d.length)) 0) = encN key cook dead d := rfl
  have e20 : hd20 key cook dead d.length = [110, 100, if dead then 1 else 0, 0] ++ putB key 8 ++ putB cook 4 ++ putB d.length 4 := rfl
  have e24' : hd24 key cook dead d.length = hd20 key cook dead d.length ++ putB (crc (hd20 key cook dead d.length)) 4 := rfl
  have hszd : szN d.length = (24 + d.length + 4 + 7) / 8 * 8 := rfl
  generalize hd24 key cook dead d.length = G at *
  generalize hd20 key cook dead d.length = G0 at *
  generalize encN key cook dead d = E at *
  generalize szN d.length = M at *
  rw [ndC]
  have gcrc := crc_lt G0
  have dcrc := crc_lt d
  have hdl := hle
  cases dead <;> (
    refine Fn.mk Tryz.func86 rfl (by kernel_rfl) Tryz.ntmps86 rfl (by rw [Tryz.results86]) ?_
    repeat (first | (refine RunH ?_; intro w hL hB; try clear w) | (refine Both.mk ?_ ?_ <;> conv => whnf) | fail)
    (refine Nw.sep hL hB (fun t1 w hL hB ht1 => ?_); conv => whnf)
    repeat (first | (refine RunH ?_; intro w hL hB; try clear w) | (refine Both.mk ?_ ?_ <;> conv => whnf) | (refine Br.f ?_ (by first | omega | (simp; omega) | (intro h; exact h1 ⟨rfl, by omega⟩)); conv => whnf) | fail)
    refine Rv.buildS (len := 4) (vs := [.int .u8 110, .int .u8 100, .int .u8 0, .int .u8 0]) ttOk hL tl40 tl5 rfl rfl (by simp [cellsL]) (by decide) (by decide) hB fun bo w hL hB => ?_
    replace hL : Sep Tryz.prog w0.heap.size w0 w (.row 5 1 (.slice (some ⟨bo, 0, none⟩) 4 4) 4 (bv [110, 100, 0, 0]) :: _) := hL
    conv => whnf
    repeat (first | (refine RunH ?_; intro w hL hB; try clear w) | (refine Both.mk ?_ ?_ <;> conv => whnf) | (refine St.rowS ttOk hL 0 tl5 rfl rfl rfl (by decide) hB (fun w hL hB => ?_); dsimp only [List.set] at hL; conv => whnf) | (intro o1 ho1; obtain rfl : o1 = 2 := (by omega); conv => whnf) | fail)
    obtain ⟨T, hG, hTl, hL⟩ : ∃ T : List UInt8, G0 = T ++ putB key 8 ++ putB cook 4 ++ putB d.length 4 ∧ T.length = 4 ∧ Sep Tryz.prog w0.heap.size w0 w [.row 5 1 (.slice (some ⟨bo, 0, none⟩) 4 4) 4 (bv T), .blk t1 _ 42] := ⟨_, e20, rfl, hL⟩
    clear e20
    refine (put64R_fn key hk _).mono fun r w ⟨ho, hw⟩ => ?_
    replace hL := hL.addRow hB hw ho
    replace hB := Nat.le_trans hB hw.size
    clear ho hw
    generalize hX1 : putB key 8 = X1 at *
    have hl1 : X1.length = 8 := by rw [← hX1]; exact putB_len _ _
    obtain ⟨rax1, rcx1, rfl⟩ := (show SlN w 1 r _ _ from hL.rowN (i := 0) rfl).shape
    conv => whnf
    repeat (first | (refine RunH ?_; intro w hL hB; try clear w) | (refine Both.mk ?_ ?_ <;> conv => whnf) | fail)
    refine Rv.appendS ttOk hL tl40 tl5 rfl (by decide) 1 rfl (hL.rowN (i := 0) rfl) (bv_one _) (by simp only [maxLen]; first | omega | (simp only [List.length_append]; omega)) (by first | omega | (simp only [List.length_append]; omega)) hB fun vo w hL hB => ?_
    dsimp only [List.set] at hL
    replace hL := hL.tl
    rw [← bv_append, show 4 + X1.length = (T ++ X1).length from by rw [List.length_append, hTl]] at hL
    obtain ⟨ray1, rcy1, rfl⟩ := (show SlN w 1 vo _ _ from hL.rowN (i := 0) rfl).shape
    conv => whnf
    repeat (first | (refine RunH ?_; intro w hL hB; try clear w) | (refine Both.mk ?_ ?_ <;> conv => whnf) | fail)
    refine (put32Rm cook hc _).mono fun r w ⟨ho, hw⟩ => ?_
    replace hL := hL.addRow hB hw ho
    replace hB := Nat.le_trans hB hw.size
    clear ho hw
    generalize hX2 : putB cook 4 = X2 at *
    have hl2 : X2.length = 4 := by rw [← hX2]; exact putB_len _ _
    obtain ⟨rax2, rcx2, rfl⟩ := (show SlN w 1 r _ _ from hL.rowN (i := 0) rfl).shape
    conv => whnf
    repeat (first | (refine RunH ?_; intro w hL hB; try clear w) | (refine Both.mk ?_ ?_ <;> conv => whnf) | fail)
    refine Rv.appendS ttOk hL tl40 tl5 rfl (by decide) 1 rfl (hL.rowN (i := 0) rfl) (bv_one _) (by simp only [maxLen]; first | omega | (simp only [List.length_append]; omega)) (by first | omega | (simp only [List.length_append]; omega)) hB fun vo w hL hB => ?_
    dsimp only [List.set] at hL
    replace hL := hL.tl
    rw [← bv_append, ← List.length_append] at hL
    obtain ⟨ray2, rcy2, rfl⟩ := (show SlN w 1 vo _ _ from hL.rowN (i := 0) rfl).shape
    conv => whnf
    repeat (first | (refine RunH ?_; intro w hL hB; try clear w) | (refine Both.mk ?_ ?_ <;> conv => whnf) | fail)
    refine (put32Rm d.length (by omega) _).mono fun r w ⟨ho, hw⟩ => ?_
    replace hL := hL.addRow hB hw ho
    replace hB := Nat.le_trans hB hw.size
    clear ho hw
    generalize hX3 : putB d.length 4 = X3 at *
    have hl3 : X3.length = 4 := by rw [← hX3]; exact putB_len _ _
    obtain ⟨rax3, rcx3, rfl⟩ := (show SlN w 1 r _ _ from hL.rowN (i := 0) rfl).shape
    conv => whnf
    repeat (first | (refine RunH ?_; intro w hL hB; try clear w) | (refine Both.mk ?_ ?_ <;> conv => whnf) | fail)
    refine Rv.appendS ttOk hL tl40 tl5 rfl (by decide) 1 rfl (hL.rowN (i := 0) rfl) (bv_one _) (by simp only [maxLen]; first | omega | (simp only [List.length_append]; omega)) (by first | omega | (simp only [List.length_append]; omega)) hB fun vo w hL hB => ?_
    dsimp only [List.set] at hL
    replace hL := hL.tl
    rw [← bv_append, ← List.length_append] at hL
    obtain ⟨ray3, rcy3, rfl⟩ := (show SlN w 1 vo _ _ from hL.rowN (i := 0) rfl).shape
    conv => whnf
    repeat (first | (refine RunH ?_; intro w hL hB; try clear w) | (refine Both.mk ?_ ?_ <;> conv => whnf) | fail)
    have hG0l : G0.length = 20 := by rw [hG]; simp only [List.length_append]; omega
    rw [← hG] at hL ⊢
    refine (sumR_fn _ G0 _ (hL.row (i := 0) rfl)).mono fun r w ⟨hr, hw⟩ => ?_
    subst hr
    replace hL := hL.call hB (Turns.of_below hw)
    replace hB := Nat.le_trans hB hw.size
    conv => whnf
    repeat (first | (refine RunH ?_; intro w hL hB; try clear w) | (refine Both.mk ?_ ?_ <;> conv => whnf) | fail)
    refine (put32Rm (crc G0) gcrc _).mono fun r w ⟨ho, hw⟩ => ?_
    replace hL := hL.addRow hB hw ho
    replace hB := Nat.le_trans hB hw.size
    clear ho hw
    generalize hX4 : putB (crc G0) 4 = X4 at *
    have hl4 : X4.length = 4 := by rw [← hX4]; exact putB_len _ _
    obtain ⟨rax4, rcx4, rfl⟩ := (show SlN w 1 r _ _ from hL.rowN (i := 0) rfl).shape
    conv => whnf
    repeat (first | (refine RunH ?_; intro w hL hB; try clear w) | (refine Both.mk ?_ ?_ <;> conv => whnf) | fail)
    refine Rv.appendS ttOk hL tl40 tl5 rfl (by decide) 1 rfl (hL.rowN (i := 0) rfl) (bv_one _) (by simp only [maxLen]; omega) (by omega) hB fun vo w hL hB => ?_
    dsimp only [List.set] at hL
    replace hL := hL.tl
    rw [← bv_append, ← List.length_append, ← e24'] at hL
    obtain ⟨ray4, rcy4, rfl⟩ := (show SlN w 1 vo _ _ from hL.rowN (i := 0) rfl).shape
    conv => whnf
    repeat (first | (refine RunH ?_; intro w hL hB; try clear w) | (refine Both.mk ?_ ?_ <;> conv => whnf) | fail)
    refine Rv.appendS ttOk hL tl40 tl5 rfl (by decide) 0 rfl (Sl.toN (hs.below hL.below)) (bv_one _) (by simp only [maxLen, bv_length]; omega) (by rw [bv_length]; omega) hB fun vo w hL hB => ?_
    dsimp only [List.set] at hL
    rw [← bv_append, bv_length, ← List.length_append] at hL
    obtain ⟨ray5, rcy5, rfl⟩ := (show SlN w 1 vo _ _ from hL.rowN (i := 0) rfl).shape
    conv => whnf
    repeat (first | (refine RunH ?_; intro w hL hB; try clear w) | (refine Both.mk ?_ ?_ <;> conv => whnf) | fail)
    refine (sumR_fn _ d _ (hs.below hL.below)).mono fun r w ⟨hr, hw⟩ => ?_
    subst hr
    replace hL := hL.call hB (Turns.of_below hw)
    replace hB := Nat.le_trans hB hw.size
    conv => whnf
    repeat (first | (refine RunH ?_; intro w hL hB; try clear w) | (refine Both.mk ?_ ?_ <;> conv => whnf) | fail)
    refine (put32Rm (crc d) dcrc _).mono fun r w ⟨ho, hw⟩ => ?_
    replace hL := hL.addRow hB hw ho
    replace hB := Nat.le_trans hB hw.size
    clear ho hw
    generalize hX6 : putB (crc d) 4 = X6 at *
    have hl6 : X6.length = 4 := by rw [← hX6]; exact putB_len _ _
    have hGd : (G ++ d).length = 24 + d.length := by rw [List.length_append, e24]
    obtain ⟨rax6, rcx6, rfl⟩ := (show SlN w 1 r _ _ from hL.rowN (i := 0) rfl).shape
    conv => whnf
    repeat (first | (refine RunH ?_; intro w hL hB; try clear w) | (refine Both.mk ?_ ?_ <;> conv => whnf) | fail)
    refine Rv.appendS ttOk hL tl40 tl5 rfl (by decide) 1 rfl (hL.rowN (i := 0) rfl) (bv_one _) (by simp only [maxLen]; omega) (by omega) hB fun vo w hL hB => ?_
    dsimp only [List.set] at hL
    replace hL := hL.tl
    rw [← bv_append, ← List.length_append] at hL
    generalize hY : G ++ d ++ X6 = Y at *
    have hYl : Y.length = 28 + d.length := by rw [← hY, List.length_append, hGd]; omega
    obtain ⟨ray6, rcy6, rfl⟩ := (show SlN w 1 vo _ _ from hL.rowN (i := 0) rfl).shape
    replace hL : Sep Tryz.prog w0.heap.size w0 w [.row 5 1 (.slice ray6 (28 + d.length + 0) rcy6) (28 + d.length + 0) (bv (Y ++ List.replicate 0 0))] := by rw [List.replicate_zero, List.append_nil, Nat.add_zero, ← hYl]; exact hL.sub (.cons_cons _ (List.nil_sublist _))
    rw [hYl]
    conv => whnf
    repeat (first | (refine RunH ?_; intro w hL hB; try clear w) | (refine Both.mk ?_ ?_ <;> conv => whnf) | fail)
    refine V.loop (α := Nat × Option Addr × Nat) (fun z => [(4, .slice z.2.1 (28 + d.length + z.1) z.2.2)])
      (fun z w' => z.1 ≤ M - (28 + d.length) ∧ w0.heap.size ≤ w'.heap.size ∧ Sep Tryz.prog w0.heap.size w0 w' [.row 5 1 (.slice z.2.1 (28 + d.length + z.1) z.2.2) (28 + d.length + z.1) (bv (Y ++ List.replicate z.1 0))])
      (fun z => M - (28 + d.length) - z.1) (0, ray6, rcy6) ⟨rfl, trivial⟩ ⟨Nat.zero_le _, hB, hL⟩ ?_
    clear hL hB
    rintro ⟨k, ka, kc⟩ w ⟨hk, hB, hL⟩
    dsimp only at hk hL ⊢
    by_cases hkM : k < M - (28 + d.length)
    · have hmod : (28 + d.length + k) % 8 ≠ 0 := by omega
      repeat (first | (refine RunH ?_; intro w hL hB; try clear w) | (refine Both.mk ?_ ?_ <;> conv => whnf) | fail)
      refine Rem.at (28 + d.length + k) 8 rfl rfl (by decide) ?_
      conv => whnf
      repeat (first | (refine RunH ?_; intro w hL hB; try clear w) | (refine Both.mk ?_ ?_ <;> conv => whnf) | fail)
      refine Rv.buildS (len := 1) (vs := [.int .u8 0]) ttOk hL tl40 tl5 rfl rfl (by simp [cellsL]) (by decide) (by decide) hB fun bo w hL hB => ?_
      replace hL : Sep Tryz.prog w0.heap.size w0 w (.row 5 1 (.slice (some ⟨bo, 0, none⟩) 1 1) 1 (bv [0]) :: _) := hL
      conv => whnf
      repeat (first | (refine RunH ?_; intro w hL hB; try clear w) | (refine Both.mk ?_ ?_ <;> conv => whnf) | fail)
      refine Rv.appendS ttOk hL tl40 tl5 rfl (by decide) 1 rfl (hL.rowN (i := 0) rfl) (bv_one _) (by simp only [maxLen]; omega) (by omega) hB fun vo w hL hB => ?_
      dsimp only [List.set] at hL
      replace hL := hL.tl
      rw [← bv_append, List.append_assoc, ← List.replicate_succ', Nat.add_assoc] at hL
      obtain ⟨rz, rzc, rfl⟩ := (show SlN w 1 vo _ _ from hL.rowN (i := 0) rfl).shape
      conv => whnf
      repeat (first | (refine RunH ?_; intro w hL hB; try clear w) | (refine Both.mk ?_ ?_ <;> conv => whnf) | fail)
      exact ⟨(k + 1, rz, rzc), ⟨rfl, trivial⟩, ⟨by dsimp only; omega, hB, hL⟩, (by first | omega | (dsimp only; omega))⟩
    · obtain rfl : k = M - (28 + d.length) := by omega
      have hmod : (28 + d.length + (M - (28 + d.length))) % 8 = 0 := by omega
      repeat (first | (refine RunH ?_; intro w hL hB; try clear w) | (refine Both.mk ?_ ?_ <;> conv => whnf) | fail)
      refine Rem.at (28 + d.length + (M - (28 + d.length))) 8 rfl rfl (by decide) ?_
      conv => whnf
      repeat (first | (refine RunH ?_; intro w hL hB; try clear w) | (refine Both.mk ?_ ?_ <;> conv => whnf) | fail)
      refine ⟨_, rfl, ?_, hL.below⟩
      have := hL.ownR (i := 0) rfl
      rw [hend] at this
      have he : (28 + d.length + (M - (28 + d.length))) = E.length := by rw [← hend, List.length_append, hYl, List.length_replicate]
      rw [he] at this ⊢
      exact this)
end Go.Proofs.YtladfadcgfdbfaaGreatDoor
