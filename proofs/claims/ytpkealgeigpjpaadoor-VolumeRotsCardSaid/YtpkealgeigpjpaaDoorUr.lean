/- VolumeRots. Nothing is claimed here. -/
import Derived.Test.YtpkealgeigpjpaaDoorPc
import Derived.Test.YtpkealgeigpjpaaDoorOg
namespace Go.Proofs.YtpkealgeigpjpaaDoor
open Go.RowKit
open Go.Maps (Keyed)
set_option linter.unusedVariables false
set_option linter.unusedSimpArgs false
set_option maxRecDepth 100000

def sumR (xs : List (Value × List UInt8)) (k : Nat) : Nat := ((xs.take k).map fun p => 40 + p.2.length).sum
theorem sumR_succ {xs : List (Value × List UInt8)} {k : Nat} (h : k < xs.length) : sumR xs (k + 1) = sumR xs k + (40 + (xs[k]).2.length) := by
  rw [sumR, List.take_succ_eq_append_getElem h]
  simp only [sumR, List.map_append, List.sum_append, List.map_cons, List.map_nil, List.sum_cons, List.sum_nil]
  omega
theorem lenR_sum (xs : List (Value × List UInt8)) : ∀ k, k ≤ xs.length → lenR (recsR (xs.take k)) ≤ sumR xs k
  | 0, _ => by simp [recsR, lenR, sumR]
  | k + 1, h => by
    have h1 := lenR_sum xs k (by omega)
    rw [recsR_snoc (by omega), lenR_app, sumR_succ (by omega)]
    have := szR_le ⟨k, 7, false, (xs[k]).2⟩
    simp only [lenR, List.map_cons, List.map_nil, List.sum_cons, List.sum_nil] at *
    omega
theorem sumR_mono (xs : List (Value × List UInt8)) {k : Nat} (h : k < xs.length) : 40 + (xs[k]).2.length ≤ sumR xs xs.length := by
  have h1 : ∀ j, k < j → j ≤ xs.length → 40 + (xs[k]).2.length ≤ sumR xs j := by
    intro j
    induction j with
    | zero => intro h; omega
    | succ j ih =>
      intro h1 h2
      rw [sumR_succ (by omega)]
      by_cases hj : k = j
      · subst hj; omega
      · have := ih (by omega) (by omega); omega
  exact h1 _ h (Nat.le_refl _)
theorem rotV_one {nm : ByteArray} {d : List UInt8} {k : Nat} {x : UInt8} (hk : k < d.length) : rotS (oneS nm d) nm (k : Int) x = oneS nm (d.set k (d.getD k 0 ^^^ x)) := by
  rw [rotS, one_get]
  simp only [Int.toNat_natCast]
  rw [if_neg (by omega)]
  simp [putS, oneS, rotL]
theorem xor_ne {a x : UInt8} (hx : x ≠ 0) : a ^^^ x ≠ a := fun h => hx (by
  have := congrArg (fun y => a ^^^ y) h
  simpa [← UInt8.xor_assoc] using this)
/-- what the gets tell -/
structure Tells (xs : List (Value × List UInt8)) (S : List Fl) (nm : ByteArray) (ps : List Pc) : Prop where
  nd : NdP ps
  ok : OkP ps
  tell : ∀ i (h : i < xs.length), vgetE S nm ps i 7 = 0 → vgetD S nm ps i = (xs[i]).2
section
variable {xs : List (Value × List UInt8)} {nm : ByteArray} {H : List UInt8} (hH : H.length = 8)
def OkRows (xs : List (Value × List UInt8)) : Prop := ∀ p ∈ xs, p.2.length ≤ 65536
theorem recsR_ok (h : OkRows xs) (hn : xs.length ≤ 100000) : ∀ r ∈ recsR xs, OkRec r := by
  intro r hr
  obtain ⟨i, hi, rfl⟩ := List.mem_mapIdx.1 hr
  refine ⟨?_, (show 7 < 4294967296 by decide), encNE_zero.2 ⟨h _ (List.getElem_mem hi), fun h => by cases h⟩⟩
  show i < _
  omega
theorem plcR_nd : NdP (plc 8 (recsR xs)) := by
  rw [NdP, plc_keys, recsR_keys]; exact List.nodup_range
theorem plcR_ok (h : OkRows xs) (hn : xs.length ≤ 100000) (hl : lenR (recsR xs) ≤ 1000000) : OkP (plc 8 (recsR xs)) := by
  intro p hp
  obtain ⟨A, r, C, hR, rfl⟩ := plc_mem hp
  have hr := recsR_ok h hn r (by rw [hR]; simp)
  obtain ⟨hx, _⟩ := encNE_zero.1 hr.enc
  have hs := szR_le r
  rw [hR, lenR_app] at hl
  refine ⟨hr.key, hr.cook, ?_, ?_, ?_⟩
  · show 8 + lenR A ≤ _; omega
  · show 28 ≤ szR r; omega
  · show szR r ≤ _; omega
theorem sub_getP {ps : List Pc} {i : Nat} {p : Pc} (hsub : ∀ q ∈ ps, q ∈ plc 8 (recsR xs)) (hi : i < xs.length) (hg : getP ps i = some p) : ∃ A C, recsR xs = A ++ ⟨i, 7, false, (xs[i]).2⟩ :: C ∧ p = placeOf (8 + lenR A) ⟨i, 7, false, (xs[i]).2⟩ := by
  obtain ⟨hk, hm⟩ := getA_some hg
  obtain ⟨A, r, C, hR, rfl⟩ := plc_mem (hsub _ hm)
  have hrk : r.key = i := hk
  have hAl : A.length < (recsR xs).length := by rw [hR]; simp
  have hAl2 : A.length < xs.length := by simpa [recsR] using hAl
  have e1 : (recsR xs)[A.length]? = some r := by rw [hR]; simp
  have e2 : (recsR xs)[A.length]? = some ⟨A.length, 7, false, (xs[A.length]).2⟩ := by
    rw [List.getElem?_eq_getElem hAl]; simp [recsR]
  rw [e1] at e2
  injection e2 with e2
  subst e2
  obtain rfl : A.length = i := hrk
  exact ⟨A, C, hR, rfl⟩
include hH in
theorem tells_rot (hok : OkRows xs) (hn : xs.length ≤ 100000) (hlen : lenR (recsR xs) ≤ 1000000) {k c : Nat} {z : UInt8} (hz : (H ++ flat (recsR xs))[k]? ≠ some z) {S : List Fl} {ps : List Pc} (hd : datS S nm = ((H ++ flat (recsR xs)).set k z).take c) (hnd : NdP ps) (hop : OkP ps) (hsub : ∀ q ∈ ps, q ∈ plc 8 (recsR xs)) : Tells xs S nm ps := by
  refine ⟨hnd, hop, fun i hi hE => ?_⟩
  rw [vgetE] at hE
  rw [vgetD]
  cases hg : getP ps i with
  | none => rw [hg] at hE; cases hE
  | some p =>
    obtain ⟨A, C, hR, rfl⟩ := sub_getP hsub hi hg
    rw [hg] at hE
    dsimp only at hE ⊢
    have hr := recsR_ok hok hn ⟨i, 7, false, (xs[i]).2⟩ (by rw [hR]; simp)
    rw [hd, hR, ← hH] at hE ⊢
    rw [hR] at hz
    split at hE
    · cases hE
    · split at hE
      · cases hE
      · split at hE
        · rename_i hrd
          exact rot_read hr hz hrd
        · cases hE
end
theorem openRot {nm : ByteArray} {R : List UInt8} {K id : Nat} {z : UInt8} (h8 : (vhd id).length = 8) (hK : K < 8) (hz : (vhd id ++ R)[K]? ≠ some z) : openE (oneS nm ((vhd id ++ R).set K z)) nm id = 3 := by
  rw [openE, one_get]
  dsimp only
  rw [if_neg]
  rintro ⟨_, h⟩
  rw [List.set_append_left _ _ (by omega), List.take_left' (by rw [List.length_set, h8])] at h
  rw [List.getElem?_append_left (by omega)] at hz
  exact set_ne (by omega) hz h
theorem openRot2 {nm : ByteArray} {R : List UInt8} {K id : Nat} {z : UInt8} (h8 : (vhd id).length = 8) (hK : 8 ≤ K) : openE (oneS nm ((vhd id ++ R).set K z)) nm id = 0 := by
  rw [openE, one_get]
  dsimp only
  rw [if_pos]
  refine ⟨by simp [h8], ?_⟩
  rw [List.set_append_right _ _ (by omega), List.take_left' h8]
theorem cutOne {nm : ByteArray} {d : List UInt8} (o : Option Nat) : ∃ c, datS (cutAt (oneS nm d) nm o) nm = d.take c := by
  cases o with
  | none => exact ⟨d.length, by rw [cutAt, one_dat, List.take_length]⟩
  | some k =>
    simp only [cutAt, cutS, one_get]
    split
    · exact ⟨d.length, by rw [one_dat, List.take_length]⟩
    · refine ⟨k, ?_⟩
      simp [datS, putS, oneS, getS]
theorem one_bad : ∀ (Rs : List Nd) (K base : Nat), ∃ j0, ∀ A r C, Rs = A ++ r :: C → A.length ≠ j0 → ¬ (base + lenR A ≤ K ∧ K < base + lenR A + szR r)
  | [], _, _ => ⟨0, fun A r C h => by simp at h⟩
  | q :: rs, K, base => by
    by_cases hq : base ≤ K ∧ K < base + szR q
    · refine ⟨0, fun A r C h hA => ?_⟩
      cases A with
      | nil => exact absurd rfl hA
      | cons q' A =>
        obtain ⟨rfl, h⟩ := List.cons.inj h
        simp only [lenR, List.map_cons, List.sum_cons]
        omega
    · obtain ⟨j0, hj⟩ := one_bad rs K (base + szR q)
      refine ⟨j0 + 1, fun A r C h hA => ?_⟩
      cases A with
      | nil =>
        obtain ⟨rfl, h⟩ := List.cons.inj h
        simpa [lenR] using hq
      | cons q' A =>
        simp only [List.cons_append, List.cons.injEq] at h
        obtain ⟨rfl, h⟩ := h
        have := hj A r C h (fun e => hA (by simp [e]))
        simp only [lenR, List.map_cons, List.sum_cons] at this ⊢
        omega
set_option maxHeartbeats 8000000 in
theorem rots_fn (v : Value) (xs : List (Value × List UInt8)) (at_ : Int) (x : UInt8) (again : Bool) (w0 : World) (hs : Sl w0 v (xs.map (·.1))) (hxs : ∀ p ∈ xs, Sl w0 p.1 (bv p.2) ∧ p.2.length ≤ 140737488355328) (hat : (Lit.int .i64 at_).wf = true) :
    Fn Tryd.prog 3 #[v, .int .i64 at_, .int .u8 (x.toNat : Int), .bool again] w0 fun r w' => r = .bool true ∧ Below w0.heap.size w0 w' := by
  have hatr := i64_wf hat
  have hL := Sep.start Tryd.prog w0
  have hB := Nat.le_refl w0.heap.size
  have hle := hs.le
  have hn := nameIs 3 (by decide)
  have hnm := hn.1.2
  obtain ⟨a, c, rfl⟩ := hs.shape
  simp only [List.length_map] at *
  have elem : ∀ {L : List Res} {w' : World}, Sep Tryd.prog w0.heap.size w0 w' L → ∀ k (hk : k < xs.length), ∃ b o, a = some ⟨b, o, none⟩ ∧ Row w' b o (xs.map (·.1)) := fun h k hk => (h.sl hs rfl).addr (by omega)
  refine Fn.mk Tryd.func3 rfl (by kernel_rfl) Tryd.ntmps3 rfl (by rw [Tryd.results3]) ?_
  repeat (first | (refine RunH ?_; intro w hL hB; try clear w) | (refine Both.mk ?_ ?_ <;> conv => whnf) | fail)
  refine V.loop (α := Nat) (fun k => [(0, .slice a xs.length c), (1, .int .i64 at_), (2, .int .u8 (x.toNat : Int)), (3, .bool again), (9, .int .i64 (sumR xs k : Int)), (10, .int .i64 (k : Int))])
    (fun k w' => k ≤ xs.length ∧ sumR xs k ≤ 140737488400000 ∧ Sep Tryd.prog w0.heap.size w0 w' []) (fun k => xs.length - k) 0 ⟨rfl, rfl, rfl, rfl, rfl, rfl, trivial⟩ ⟨by omega, by simp [sumR], hL⟩ ?_
  clear hL hB
  rintro k w ⟨hk, hsum, hL⟩
  have hB := hL.below.size
  dsimp only at *
  by_cases hgo : k < xs.length ∧ sumR xs k ≤ 20000
  · obtain ⟨hlt, hsm⟩ := hgo
    have hm := hxs _ (List.getElem_mem hlt)
    obtain ⟨bb, o, rfl, hrow⟩ := elem hL k hlt
    have hsu := sumR_succ hlt
    repeat (first | (refine RunH ?_; intro w hL hB; try clear w) | (refine Both.mk ?_ ?_ <;> conv => whnf) | fail)
    intro o1 ho1
    conv => whnf
    obtain ⟨pa, pc, hpv⟩ := hm.1.shape
    rw [bv_length] at hpv
    refine Ld.row1 ttOk hrow (k := k) tl23 rfl (by rw [List.getElem?_map, List.getElem?_eq_getElem hlt]; exact congrArg some hpv) (by omega) ?_
    conv => whnf
    repeat (first | (refine RunH ?_; intro w hL hB; try clear w) | (refine Both.mk ?_ ?_ <;> conv => whnf) | fail)
    exact ⟨k + 1, ⟨rfl, rfl, rfl, rfl, vint (by rw [hsu]; push_cast; omega), vint (by push_cast; omega), trivial⟩, ⟨by omega, by omega, hL⟩, (by first | omega | (dsimp only; omega))⟩
  by_cases hbig : 6000 < sumR xs k
  · by_cases hlt : k < xs.length
    · have h20 : ¬ sumR xs k ≤ 20000 := fun h => hgo ⟨hlt, h⟩
      repeat (first | (refine RunH ?_; intro w hL hB; try clear w) | (refine Both.mk ?_ ?_ <;> conv => whnf) | fail)
      exact ⟨rfl, hL.below⟩
    · repeat (first | (refine RunH ?_; intro w hL hB; try clear w) | (refine Both.mk ?_ ?_ <;> conv => whnf) | fail)
      exact ⟨rfl, hL.below⟩
  have hke : k = xs.length := by
    rcases Nat.lt_or_ge k xs.length with h | h
    · exact absurd ⟨h, by omega⟩ hgo
    · omega
  subst hke
  by_cases hx0 : x = 0
  · subst hx0
    rw [show ((0 : UInt8).toNat : Int) = 0 from rfl]
    repeat (first | (refine RunH ?_; intro w hL hB; try clear w) | (refine Both.mk ?_ ?_ <;> conv => whnf) | fail)
    exact ⟨rfl, hL.below⟩
  have hxn : (x.toNat : Int) ≠ 0 := fun h => hx0 (UInt8.toNat_inj.1 (by show x.toNat = 0; omega))
  have hmono := fun i (h : i < xs.length) => sumR_mono xs h
  have hN : xs.length ≤ 6000 := by
    have : ∀ j, j ≤ xs.length → 40 * j ≤ sumR xs j := by
      intro j
      induction j with
      | zero => intro _; omega
      | succ j ih => intro h; rw [sumR_succ (by omega)]; have := ih (by omega); omega
    have := this _ (Nat.le_refl _)
    omega
  have hall : ∀ i (h : i < xs.length), (xs[i]).2.length ≤ 6000 := fun i h => by have := hmono i h; omega
  have hokr : OkRows xs := fun p hp => by
    obtain ⟨i, hi, rfl⟩ := List.mem_iff_getElem.1 hp
    have := hall i hi; omega
  have hlen := lenR_sum xs xs.length (Nat.le_refl _)
  rw [List.take_length] at hlen
  have h8 : (vhd 3).length = 8 := vhd_len 3
  repeat (first | (refine RunH ?_; intro w hL hB; try clear w) | (refine Both.mk ?_ ?_ <;> conv => whnf) | fail)
  refine (new_fn 1048576 hL hB).mono fun r w hr => ?_
  obtain ⟨d, rfl, hD⟩ := hr.1 (by decide)
  clear hr hL hB
  obtain ⟨dL, hL, hB, close⟩ := hD.open
  clear hD
  conv => whnf
  repeat (first | (refine RunH ?_; intro w hL hB; try clear w) | (refine Both.mk ?_ ?_ <;> conv => whnf) | fail)
  refine (create_fn hn (close (F' := []) hL hB)).mono fun r w ⟨_, _, hr⟩ => ?_
  obtain ⟨vv, m, rfl, hD⟩ := hr rfl (one_create hnm (by decide) (id := 3)).1
  rw [(one_create hnm (by decide)).2] at hD
  clear hr hL hB close
  obtain ⟨dL, hL, hB, close⟩ := hD.open
  clear hD
  conv => whnf
  repeat (first | (refine RunH ?_; intro w hL hB; try clear w) | (refine Both.mk ?_ ?_ <;> conv => whnf) | fail)
  replace hD := close (F' := [_, _]) hL hB
  clear hL hB close
  refine V.loop (α := Nat) (fun k => [(0, .slice a xs.length c), (1, .int .i64 at_), (2, .int .u8 (x.toNat : Int)), (3, .bool again), (11, ptr d), (13, ptr vv), (15, .int .i64 (k : Int))])
    (fun k w' => k ≤ xs.length ∧ DkS w0.heap.size w0 w' d (1048576 : Int).toNat (oneS (vnm 3) (vhd 3 ++ flat (recsR (xs.take k)))) [.blk vv (volC d 3 (vnm 3) m) 63, .mp 32 m ((plc 8 (recsR (xs.take k))).map pcE)]) (fun k => xs.length - k) 0 ⟨rfl, rfl, rfl, rfl, rfl, rfl, rfl, trivial⟩ ⟨by omega, by simpa [recsR, flat, plc] using hD⟩ ?_
  clear hD hk hgo
  rintro k w ⟨hk, hD⟩
  by_cases hlt : k < xs.length
  · obtain ⟨dL, hL, hB, close⟩ := hD.open
    clear hD
    obtain ⟨bb, o, rfl, hrow⟩ := elem hL k hlt
    have hm := hxs _ (List.getElem_mem hlt)
    have hlk := hall k hlt
    have hlenk := lenR_sum xs k (by omega)
    have hsk : sumR xs k ≤ sumR xs xs.length := by
      have : ∀ j, k ≤ j → j ≤ xs.length → sumR xs k ≤ sumR xs j := by
        intro j
        induction j with
        | zero => intro h1 _; have : k = 0 := by omega
                  subst this; exact Nat.le_refl _
        | succ j ih =>
          intro h1 h2
          by_cases he : k = j + 1
          · subst he; exact Nat.le_refl _
          · rw [sumR_succ (by omega)]; have := ih (by omega) (by omega); omega
      exact this _ hk (Nat.le_refl _)
    have hsnoc := recsR_snoc hlt
    have hkeys := recsR_keys (xs.take k)
    have hndk : NdP (plc 8 (recsR (xs.take k))) := plcR_nd
    have hfl : (vhd 3 ++ flat (recsR (xs.take k))).length = 8 + lenR (recsR (xs.take k)) := by rw [List.length_append, h8, flatR_len]
    generalize hxk : xs[k] = q at *
    obtain ⟨qv, ql⟩ := q
    obtain ⟨pa, pc, hpv⟩ := hm.1.shape
    rw [bv_length] at hpv
    dsimp only at hpv hm hlk
    subst hpv
    have hszr := szR_le ⟨k, 7, false, ql⟩
    dsimp only at hszr
    have hgn : getP (plc 8 (recsR (xs.take k))) k = none := by
      cases hg : getP (plc 8 (recsR (xs.take k))) k with
      | none => rfl
      | some p =>
        obtain ⟨h1, h2⟩ := getA_some hg
        have := List.mem_map_of_mem (f := Pc.key) h2
        rw [plc_keys, hkeys, h1, List.mem_range, List.length_take] at this
        omega
    have hput := one_put (room := (1048576 : Int).toNat) (nm := vnm 3) (d := vhd 3 ++ flat (recsR (xs.take k))) (xs := ql) (ps := plc 8 (recsR (xs.take k))) (key := k) (cook := 7) (dead := false) hnm (encNE_zero.2 ⟨by omega, fun h => by cases h⟩) (by rw [vputB, hgn]) (by rw [hfl]; show _ + szR ⟨k, 7, false, ql⟩ ≤ _; omega) (by rw [hfl]; show _ + szR ⟨k, 7, false, ql⟩ ≤ 1048576; omega)
    rw [hfl, layP, hgn] at hput
    have hput2 : putP (plc 8 (recsR (xs.take k))) ⟨k, 8 + lenR (recsR (xs.take k)), szN ql.length, 7, false⟩ = plc 8 (recsR (xs.take k)) ++ [placeOf (8 + lenR (recsR (xs.take k))) ⟨k, 7, false, ql⟩] := putA_new (getA_none hgn)
    dsimp only at hput
    rw [hput2] at hput
    repeat (first | (refine RunH ?_; intro w hL hB; try clear w) | (refine Both.mk ?_ ?_ <;> conv => whnf) | fail)
    intro o1 ho1
    conv => whnf
    refine Ld.row1 ttOk hrow (k := k) tl23 rfl (by rw [List.getElem?_map, List.getElem?_eq_getElem hlt, hxk]; rfl) (by omega) ?_
    conv => whnf
    repeat (first | (refine RunH ?_; intro w hL hB; try clear w) | (refine Both.mk ?_ ?_ <;> conv => whnf) | fail)
    refine (vput_fn hn k 7 false _ ql (by omega) (by decide) hndk (fun w' h => h.sl hm.1 rfl) (close (F' := [_, _]) hL hB)).mono fun r w ⟨hr, hD⟩ => ?_
    rw [hput.1] at hr
    rw [hput.2.1, hput.2.2] at hD
    subst hr
    have hD' : DkS w0.heap.size w0 w d (1048576 : Int).toNat (oneS (vnm 3) (vhd 3 ++ flat (recsR (xs.take (k + 1))))) [.blk vv (volC d 3 (vnm 3) m) 63, .mp 32 m ((plc 8 (recsR (xs.take (k + 1)))).map pcE)] := by
      rw [hsnoc, flat_app, plc_snoc, ← List.append_assoc]
      simpa [flat, encR] using hD
    clear hL hB close
    obtain ⟨dL, hL, hB, close⟩ := hD'.open
    conv => whnf
    repeat (first | (refine RunH ?_; intro w hL hB; try clear w) | (refine Both.mk ?_ ?_ <;> conv => whnf) | fail)
    exact ⟨k + 1, ⟨rfl, rfl, rfl, rfl, rfl, rfl, vint (by push_cast; omega), trivial⟩, ⟨by omega, hD'⟩, (by first | omega | (dsimp only; omega))⟩
  have hke : k = xs.length := by omega
  subst hke
  rw [List.take_length] at hD
  obtain ⟨dL, hL, hB, close⟩ := hD.open
  repeat (first | (refine RunH ?_; intro w hL hB; try clear w) | (refine Both.mk ?_ ?_ <;> conv => whnf) | fail)
  clear hL hB close
  refine (vsize_fn (by omega) hD).mono fun r w ⟨hr, hD⟩ => ?_
  have hDl : (vhd 3 ++ flat (recsR xs)).length = 8 + lenR (recsR xs) := by rw [List.length_append, h8, flatR_len]
  rw [one_sz, hDl] at hr
  subst hr
  obtain ⟨dL, hL, hB, close⟩ := hD.open
  clear hD
  conv => whnf
  repeat (first | (refine RunH ?_; intro w hL hB; try clear w) | (refine Both.mk ?_ ?_ <;> conv => whnf) | fail)
  refine Rem.mk (by omega) ?_
  obtain ⟨K, hKl, hK⟩ : ∃ K : Nat, K < 8 + lenR (recsR xs) ∧ (K : Int) = if at_.tmod ((8 + lenR (recsR xs) : Nat) : Int) < 0 then at_.tmod ((8 + lenR (recsR xs) : Nat) : Int) + ((8 + lenR (recsR xs) : Nat) : Int) else at_.tmod ((8 + lenR (recsR xs) : Nat) : Int) := by
    have h1 := Int.tmod_lt_of_pos at_ (b := ((8 + lenR (recsR xs) : Nat) : Int)) (by omega)
    have h2 : -((8 + lenR (recsR xs) : Nat) : Int) < at_.tmod ((8 + lenR (recsR xs) : Nat) : Int) := by
      have := Int.tmod_lt_of_pos (-at_) (b := ((8 + lenR (recsR xs) : Nat) : Int)) (by omega)
      rw [Int.neg_tmod] at this
      omega
    generalize at_.tmod ((8 + lenR (recsR xs) : Nat) : Int) = q at *
    split
    · exact ⟨(q + ((8 + lenR (recsR xs) : Nat) : Int)).toNat, by omega, by omega⟩
    · exact ⟨q.toNat, by omega, by omega⟩
  generalize at_.tmod ((8 + lenR (recsR xs) : Nat) : Int) = q at *
  by_cases hq : q < 0
  case' pos =>
    rw [if_pos hq] at hK
    conv => whnf
    repeat (first | (refine RunH ?_; intro w hL hB; try clear w) | (refine Both.mk ?_ ?_ <;> conv => whnf) | fail)
  case' neg =>
    rw [if_neg hq] at hK
    conv => whnf
    repeat (first | (refine RunH ?_; intro w hL hB; try clear w) | (refine Both.mk ?_ ?_ <;> conv => whnf) | fail)
  all_goals
    refine (hn.2 _).mono fun r w' ⟨hr, hw⟩ => ?_
    subst hr
    subst hw
    conv => whnf
    repeat (first | (refine RunH ?_; intro w hL hB; try clear w) | (refine Both.mk ?_ ?_ <;> conv => whnf) | fail)
  all_goals
    rw [← hK]
    refine (rot_fn (vnm 3) (by omega) _ x (close (F' := [_, _]) hL hB)).mono fun r w ⟨hr, hD⟩ => ?_
    rw [rotV_one (by rw [hDl]; exact hKl)] at hD
    subst hr
    clear hL hB close
    have hz : (vhd 3 ++ flat (recsR xs))[K]? ≠ some ((vhd 3 ++ flat (recsR xs)).getD K 0 ^^^ x) := by
      rw [List.getD_eq_getElem?_getD, List.getElem?_eq_getElem (by rw [hDl]; exact hKl), Option.getD_some]
      exact fun e => xor_ne hx0 (Option.some.inj e).symm
    generalize (vhd 3 ++ flat (recsR xs)).getD K 0 ^^^ x = z at hz hD
    obtain ⟨dL, hL, hB, close⟩ := hD.open
    clear hD
    cases again
    case' true =>
      conv => whnf
      repeat (first | (refine RunH ?_; intro w hL hB; try clear w) | (refine Both.mk ?_ ?_ <;> conv => whnf) | fail)
      refine (vopen_fn hn (close (F' := [_, _]) hL hB)).mono fun r w ⟨hr1, hr2⟩ => ?_
      clear hL hB close
      by_cases hK8 : K < 8
      · rw [openRot h8 hK8 hz] at hr1
        obtain ⟨rfl, hD⟩ := hr1 (by decide)
        clear hr1 hr2
        obtain ⟨dL, hL, hB, close⟩ := hD.open
        clear hD
        conv => whnf
        repeat (first | (refine RunH ?_; intro w hL hB; try clear w) | (refine Both.mk ?_ ?_ <;> conv => whnf) | (refine (knownV_fn _).mono fun r w hr => ?_; obtain ⟨hr, hw⟩ := hr; subst hr; replace hL := hL.call hB (Turns.of_below hw); replace hB := Nat.le_trans hB hw.size; conv => whnf) | fail)
        exact ⟨rfl, hL.below⟩
      obtain ⟨vv, m, ps, o, hsc, hnd, hop, rfl, hD⟩ := hr2 (openRot2 h8 (by omega))
      clear hr1 hr2
      have hT : Tells xs (cutAt (oneS (vnm 3) ((vhd 3 ++ flat (recsR xs)).set K z)) (vnm 3) o) (vnm 3) ps := by
        rw [one_dat, ← h8] at hsc
        have hsub := scan_rot (recsR xs) (recsR_ok hokr (by omega)) (by omega) hz hsc
        obtain ⟨cc, hcc⟩ := cutOne (d := (vhd 3 ++ flat (recsR xs)).set K z) (nm := vnm 3) o
        refine tells_rot h8 hokr (by omega) (by omega) hz hcc hnd hop fun q hq => ?_
        rcases hsub q hq with h | h
        · cases h
        · rwa [h8] at h
      obtain ⟨bg, j0, hbg, hc⟩ : ∃ (bg : Bool) (j0 : Nat), bg = true ∧ (bg = false → ∀ i, i < xs.length → i ≠ j0 → vgetE (cutAt (oneS (vnm 3) ((vhd 3 ++ flat (recsR xs)).set K z)) (vnm 3) o) (vnm 3) ps i 7 = 0) := ⟨true, 0, rfl, fun h => by cases h⟩
      generalize cutAt (oneS (vnm 3) ((vhd 3 ++ flat (recsR xs)).set K z)) (vnm 3) o = S at *
      generalize hF0 : [Res.blk _ _ _, _] = F0 at hD
      obtain ⟨dL, hL, hB, close⟩ := hD.open
      conv => whnf
      repeat (first | (refine RunH ?_; intro w hL hB; try clear w) | (refine Both.mk ?_ ?_ <;> conv => whnf) | fail)
    case' false =>
      obtain ⟨bg, j0, hbg, hc⟩ : ∃ (bg : Bool) (j0 : Nat), bg = false ∧ (bg = false → ∀ i, i < xs.length → i ≠ j0 → vgetE (oneS (vnm 3) ((vhd 3 ++ flat (recsR xs)).set K z)) (vnm 3) (plc 8 (recsR xs)) i 7 = 0) := by
        obtain ⟨j0, hj⟩ := one_bad (recsR xs) K 8
        refine ⟨false, j0, rfl, fun _ i hi hij => ?_⟩
        obtain ⟨A, C, hA, hAl⟩ := recsR_get hi
        have hr := recsR_ok hokr (by omega) ⟨i, 7, false, (xs[i]).2⟩ (by rw [hA]; simp)
        have hg : getP (plc 8 (recsR xs)) i = some (placeOf (8 + lenR A) ⟨i, 7, false, (xs[i]).2⟩) := by
          have hmem : placeOf (8 + lenR A) ⟨i, 7, false, (xs[i]).2⟩ ∈ plc 8 (recsR xs) := by rw [hA]; exact mem_plc
          exact getA_mem plcR_nd hmem
        have ho := rot_out (H := vhd 3) (A := A) (C := C) (k := K) (z := z) hr (by rw [h8]; exact hj A _ C hA (by omega))
        rw [h8, ← hA] at ho
        rw [vgetE, hg]
        dsimp only [placeOf] at ho ⊢
        rw [if_neg (by decide), if_neg (fun h => h rfl), one_dat, if_pos ho]
      have hT : Tells xs (oneS (vnm 3) ((vhd 3 ++ flat (recsR xs)).set K z)) (vnm 3) (plc 8 (recsR xs)) :=
        tells_rot h8 hokr (by omega) (by omega) hz (c := ((vhd 3 ++ flat (recsR xs)).set K z).length) (by rw [one_dat, List.take_length]) plcR_nd (plcR_ok hokr (by omega) (by omega)) fun q hq => hq
      have hD := close (F' := [_, _]) hL hB
      generalize oneS (vnm 3) ((vhd 3 ++ flat (recsR xs)).set K z) = S at *
      generalize plc 8 (recsR xs) = ps at *
      clear hL hB close
      generalize hF0 : ([] : List Res) = F0 at hD
      obtain ⟨dL, hL, hB, close⟩ := hD.open
      conv => whnf
      repeat (first | (refine RunH ?_; intro w hL hB; try clear w) | (refine Both.mk ?_ ?_ <;> conv => whnf) | fail)
  all_goals
    clear hL hB close
    refine V.loop (α := Nat × Nat) (fun z => [(0, .slice a xs.length c), (3, .bool bg), (13, ptr vv), (20, .int .i64 (z.2 : Int)), (21, .int .i64 (z.1 : Int))])
      (fun z w' => z.1 ≤ xs.length ∧ z.2 ≤ z.1 ∧ (bg = false → z.2 ≤ if j0 < z.1 then 1 else 0) ∧ DkS w0.heap.size w0 w' d (1048576 : Int).toNat S (.blk vv (volC d 3 (vnm 3) m) 63 :: .mp 32 m (ps.map pcE) :: F0)) (fun z => xs.length - z.1) (0, 0) ⟨rfl, by rw [hbg]; rfl, rfl, rfl, rfl, trivial⟩ ⟨by dsimp only; omega, Nat.le_refl _, fun _ => Nat.zero_le _, hD⟩ ?_
    clear hD
    rintro ⟨i, bad⟩ w ⟨hi, hbad, hc2, hD⟩
    dsimp only at hi hbad hc2 hD ⊢
    obtain ⟨dL, hL, hB, close⟩ := hD.open
    by_cases hlt : i < xs.length
    · have hm := hxs _ (List.getElem_mem hlt)
      have hT2 := hT.tell i hlt
      generalize hq' : xs[i] = q' at *
      obtain ⟨qv, ql⟩ := q'
      dsimp only at hm hT2
      obtain ⟨pa, pc, hpv⟩ := hm.1.shape
      rw [bv_length] at hpv
      subst hpv
      repeat (first | (refine RunH ?_; intro w hL hB; try clear w) | (refine Both.mk ?_ ?_ <;> conv => whnf) | fail)
      clear hL hB close
      refine (vget_fn hn i 7 (by omega) hT.nd hT.ok hD).mono fun r w hP => ?_
      clear hD
      rw [vgetPost] at hP
      by_cases hE : vgetE S (vnm 3) ps i 7 = 0
      · rw [if_pos hE, hT2 hE] at hP
        obtain ⟨u, rfl, hD⟩ := hP
        obtain ⟨dL, hL, hB, close⟩ := hD.open
        clear hD
        obtain ⟨ua, uc, rfl⟩ := (show SlN w 1 u _ _ from hL.rowN (i := 0) rfl).shape
        obtain ⟨bb, o, rfl, hrow⟩ := elem hL i hlt
        conv => whnf
        repeat (first | (refine RunH ?_; intro w hL hB; try clear w) | (refine Both.mk ?_ ?_ <;> conv => whnf) | fail)
        intro o1 ho1
        conv => whnf
        refine Ld.row1 ttOk hrow (k := i) tl23 rfl (by rw [List.getElem?_map, List.getElem?_eq_getElem hlt, hq']; rfl) (by omega) ?_
        conv => whnf
        repeat (first | (refine RunH ?_; intro w hL hB; try clear w) | (refine Both.mk ?_ ?_ <;> conv => whnf) | fail)
        refine (same_fn _ _ ql ql _ (hL.row (i := 0) rfl) (hL.sl hm.1 rfl)).mono fun r w ⟨hr, hw⟩ => ?_
        subst hr
        replace hL := hL.call hB (Turns.of_below hw)
        replace hB := Nat.le_trans hB hw.size
        rw [decide_eq_true rfl]
        conv => whnf
        repeat (first | (refine RunH ?_; intro w hL hB; try clear w) | (refine Both.mk ?_ ?_ <;> conv => whnf) | fail)
        exact ⟨(i + 1, bad), ⟨rfl, rfl, rfl, rfl, vint (by push_cast; omega), trivial⟩, ⟨by dsimp only; omega, by dsimp only; omega, fun h => by have := hc2 h; dsimp only; split at this <;> split <;> omega, close (F' := _ :: _ :: F0) hL.tl hB⟩, (by first | omega | (dsimp only; omega))⟩
      · rw [if_neg hE] at hP
        obtain ⟨rfl, hD⟩ := hP
        obtain ⟨dL, hL, hB, close⟩ := hD.open
        conv => whnf
        repeat (first | (refine RunH ?_; intro w hL hB; try clear w) | (refine Both.mk ?_ ?_ <;> conv => whnf) | fail)
        exact ⟨(i + 1, bad + 1), ⟨rfl, rfl, rfl, vint (by push_cast; omega), vint (by push_cast; omega), trivial⟩, ⟨by dsimp only; omega, by dsimp only; omega, fun h => by
          have h1 := hc2 h
          have h2 : i = j0 := Decidable.byContradiction fun hne => hE (hc h i hlt hne)
          dsimp only
          split at h1 <;> split <;> omega, hD⟩, (by first | omega | (dsimp only; omega))⟩
    have hie : i = xs.length := by omega
    subst hie
    have hb1 : bg = false → bad ≤ 1 := fun h => by have := hc2 h; split at this <;> omega
    clear hc hc2
    subst hbg
    try have hb2 := hb1 rfl
    repeat (first | (refine RunH ?_; intro w hL hB; try clear w) | (refine Both.mk ?_ ?_ <;> conv => whnf) | (refine (knownV_fn _).mono fun r w hr => ?_; obtain ⟨hr, hw⟩ := hr; subst hr; replace hL := hL.call hB (Turns.of_below hw); replace hB := Nat.le_trans hB hw.size; conv => whnf) | fail)
    exact ⟨rfl, hL.below⟩
end Go.Proofs.YtpkealgeigpjpaaDoor
