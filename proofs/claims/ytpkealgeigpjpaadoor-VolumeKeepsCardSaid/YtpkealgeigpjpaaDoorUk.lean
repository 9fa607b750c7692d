/- VolumeKeeps. Nothing is claimed here. -/
import Derived.Test.YtpkealgeigpjpaaDoorPc
import Derived.Test.YtpkealgeigpjpaaDoorDg
import Derived.Test.YtpkealgeigpjpaaDoorDh
import Derived.Test.YtpkealgeigpjpaaDoorOn
namespace Go.Proofs.YtpkealgeigpjpaaDoor
open Go.RowKit
open Go.Maps (Keyed)
set_option linter.unusedVariables false
set_option linter.unusedSimpArgs false
set_option maxRecDepth 100000

theorem vboolE {a b : Bool} (h : a = b) : some (Value.bool a) = some (Value.bool b) := by rw [h]
def u64v (k : Nat) : Value := .int .u64 (k : Int)
theorem flat_u64 : ∀ l : List Nat, (l.flatMap fun b => [u64v b]) = l.map u64v
  | [] => rfl
  | b :: l => by simp only [List.flatMap_cons, flat_u64 l]; rfl
theorem keys_open {w : World} {S d : Nat} {v : Value} (h : opz Tryd.prog TT S w (d + 2) 49 [v]) : ∃ l : List Nat, Sl w v (l.map u64v) ∧ ∀ k ∈ l, k < 18446744073709551616 := by
  obtain ⟨l, h1, h2, _⟩ := sl_open (α := Nat) tl49 tl32 (by decide) (fun b => [u64v b]) (fun _ => rfl) (fun k => k < 18446744073709551616) (fun es _ h => by
    unfold opz at h
    simp only [tl32] at h
    obtain ⟨k, rfl, h⟩ := h
    obtain ⟨x, rfl, hx⟩ := wf_u64 h
    exact ⟨x, rfl, hx⟩) h
  rw [flat_u64] at h1
  exact ⟨l, h1.to1, h2⟩
theorem crash_oneS (nm : ByteArray) (d : List UInt8) (draw : Int) : crashS (oneS nm d) draw = oneS nm d := by
  rw [oneS, crash_one, crash1]
  have h : stays draw 0 ⟨nm, d, d.length⟩ = d.length := by
    have := stays_le (draw := draw) (i := 0) (f := ⟨nm, d, d.length⟩) (Nat.le_refl _)
    dsimp only at this
    omega
  rw [h]
  simp
theorem lenR_le {Rs : List Nd} {c : Nat} (h : ∀ r ∈ Rs, r.xs.length ≤ c) : lenR Rs ≤ Rs.length * (35 + c) := by
  induction Rs with
  | nil => simp [lenR]
  | cons r rs ih =>
    have h1 := ih fun q hq => h q (by simp [hq])
    have h2 := h r (by simp)
    have h3 := szR_le r
    simp only [lenR, List.map_cons, List.sum_cons, List.length_cons, Nat.succ_mul] at *
    omega
theorem getP_none {ps : List Pc} {k : Nat} (h : k ∉ ps.map Pc.key) : getP ps k = none := by
  cases hg : getP ps k with
  | none => rfl
  | some p =>
    obtain ⟨h1, h2⟩ := getA_some hg
    exact absurd (h1 ▸ List.mem_map_of_mem h2) h
theorem getP_some {ps : List Pc} {k : Nat} (h : k ∈ ps.map Pc.key) : ∃ p ∈ ps, p.key = k ∧ getP ps k = some p := by
  cases hg : getP ps k with
  | none =>
    obtain ⟨p, hp, he⟩ := List.mem_map.1 h
    exact absurd he (getA_none hg p hp)
  | some p =>
    obtain ⟨h1, h2⟩ := getA_some hg
    exact ⟨p, h2, h1, rfl⟩
theorem plc_get_last {Rs : List Nd} {r : Nd} {at_ : Nat} (hnd : ((Rs ++ [r]).map Nd.key).Nodup) : getP (plc at_ (Rs ++ [r])) r.key = some (placeOf (at_ + lenR Rs) r) := by
  have hmem : placeOf (at_ + lenR Rs) r ∈ plc at_ (Rs ++ [r]) := mem_plc (C := [])
  have h : ((plc at_ (Rs ++ [r])).map Pc.key).Nodup := by rw [plc_keys]; exact hnd
  exact getA_mem h hmem
theorem openOk {nm : ByteArray} {R : List UInt8} {id : Nat} (h8 : (vhd id).length = 8) : openE (oneS nm (vhd id ++ R)) nm id = 0 := by
  rw [openE, one_get]
  dsimp only
  rw [if_pos]
  exact ⟨by simp [h8], List.take_left' h8⟩
set_option maxHeartbeats 8000000 in
theorem keepsV_fn (v : Value) (ks : List Nat) (dv : Value) (l : List UInt8) (draw : Int) (w0 : World) (hs : Sl w0 v (ks.map u64v)) (hks : ∀ k ∈ ks, k < 18446744073709551616) (hsd : Sl w0 dv (bv l)) (hdw : (Lit.int .i64 draw).wf = true) :
    Fn Tryd.prog 5 #[v, dv, .int .i64 draw] w0 fun r w' => r = .bool true ∧ Below w0.heap.size w0 w' := by
  have hdwr := i64_wf hdw
  have hL := Sep.start Tryd.prog w0
  have hB := Nat.le_refl w0.heap.size
  have hle := hs.le
  have hled := hsd.le
  have hn := nameIs 3 (by decide)
  have hnm := hn.1.2
  have h8 : (vhd 3).length = 8 := vhd_len 3
  obtain ⟨a, c, rfl⟩ := hs.shape
  obtain ⟨da, dc, rfl⟩ := hsd.shape
  simp only [List.length_map, bv_length] at *
  have elem : ∀ {L : List Res} {w' : World}, Sep Tryd.prog w0.heap.size w0 w' L → ∀ k (hk : k < ks.length), ∃ b o, a = some ⟨b, o, none⟩ ∧ Row w' b o (ks.map u64v) := fun h k hk => (h.sl hs rfl).addr (by omega)
  refine Fn.mk Tryd.func5 rfl (by kernel_rfl) Tryd.ntmps5 rfl (by rw [Tryd.results5]) ?_
  repeat (first | (refine RunH ?_; intro w hL hB; try clear w) | (refine Both.mk ?_ ?_ <;> conv => whnf) | fail)
  by_cases hbig : 60 < ks.length
  · repeat (first | (refine RunH ?_; intro w hL hB; try clear w) | (refine Both.mk ?_ ?_ <;> conv => whnf) | fail)
    exact ⟨rfl, hL.below⟩
  by_cases hbig2 : 200 < l.length
  · repeat (first | (refine RunH ?_; intro w hL hB; try clear w) | (refine Both.mk ?_ ?_ <;> conv => whnf) | fail)
    exact ⟨rfl, hL.below⟩
  repeat (first | (refine RunH ?_; intro w hL hB; try clear w) | (refine Both.mk ?_ ?_ <;> conv => whnf) | fail)
  refine (new_fn 1048576 hL hB).mono fun r w hr => ?_
  obtain ⟨d, rfl, hD⟩ := hr.1 (by decide)
  clear hr hL hB
  obtain ⟨dL, hL, hB, close⟩ := hD.open
  clear hD
  conv => whnf
  repeat (first | (refine RunH ?_; intro w hL hB; try clear w) | (refine Both.mk ?_ ?_ <;> conv => whnf) | fail)
  refine (create_fn hn (close (F' := []) hL hB)).mono fun r w ⟨_, _, hr⟩ => ?_
  obtain ⟨vv, m, rfl, hD⟩ := hr rfl (one_create hnm (by decide) (id := 3)).1
  rw [(one_create hnm (by decide)).2] at hD
  clear hr hL hB close
  obtain ⟨dL, hL, hB, close⟩ := hD.open
  clear hD
  conv => whnf
  repeat (first | (refine RunH ?_; intro w hL hB; try clear w) | (refine Both.mk ?_ ?_ <;> conv => whnf) | fail)
  replace hD := close (F' := [_, _]) hL hB
  clear hL hB close
  refine V.loop (α := Nat × Nat × Nat × List Nd) (fun z => [(0, .slice a ks.length c), (1, .slice da l.length dc), (2, .int .i64 draw), (7, ptr d), (9, ptr z.2.1), (11, .int .i64 (z.1 : Int))])
    (fun z w' => z.1 ≤ ks.length ∧ (z.2.2.2.map Nd.key).Nodup ∧ (∀ k, k ∈ z.2.2.2.map Nd.key ↔ k ∈ ks.take z.1) ∧ (∀ r ∈ z.2.2.2, OkRec r ∧ r.xs.length ≤ 201 ∧ r.dead = false) ∧ z.2.2.2.length ≤ z.1 ∧ DkS w0.heap.size w0 w' d (1048576 : Int).toNat (oneS (vnm 3) (vhd 3 ++ flat z.2.2.2)) [.blk z.2.1 (volC d 3 (vnm 3) z.2.2.1) 63, .mp 32 z.2.2.1 ((plc 8 z.2.2.2).map pcE)]) (fun z => ks.length - z.1) (0, vv, m, []) ⟨rfl, rfl, rfl, rfl, rfl, rfl, trivial⟩ ⟨by dsimp only; omega, List.nodup_nil, by simp, by simp, Nat.le_refl _, by simpa [flat, plc] using hD⟩ ?_
  clear hD
  rintro ⟨i, vv, m, Rs⟩ w ⟨hi, hnd, hmem, hok, hlR, hD⟩
  dsimp only at hi hnd hmem hok hlR hD ⊢
  by_cases hlt : i < ks.length
  · obtain ⟨dL, hL, hB, close⟩ := hD.open
    clear hD
    have hki := hks _ (List.getElem_mem hlt)
    obtain ⟨bb, o, rfl, hrow0⟩ := elem hL i hlt
    repeat (first | (refine RunH ?_; intro w hL hB; try clear w) | (refine Both.mk ?_ ?_ <;> conv => whnf) | fail)
    refine V.loop (α := Nat) (fun j => [(0, .slice (some ⟨bb, o, none⟩) ks.length c), (1, .slice da l.length dc), (2, .int .i64 draw), (7, ptr d), (9, ptr vv), (11, .int .i64 (i : Int)), (12, .bool (decide (ks[i] ∉ ks.take j))), (13, .int .i64 (j : Int))])
      (fun j w' => j ≤ i ∧ Sep Tryd.prog w0.heap.size w0 w' ([.blk vv (volC d 3 (vnm 3) m) 63, .mp 32 m ((plc 8 Rs).map pcE)] ++ dL) ∧ w0.heap.size ≤ w'.heap.size) (fun j => i - j) 0 ⟨rfl, rfl, rfl, rfl, rfl, rfl, rfl, rfl, trivial⟩ ⟨by omega, hL, hB⟩ ?_
    clear hL hB
    rintro j w ⟨hj, hL, hB⟩
    by_cases hji : j < i
    · have rowAt : ∀ x, Sep Tryd.prog w0.heap.size w0 x ([.blk vv (volC d 3 (vnm 3) m) 63, .mp 32 m ((plc 8 Rs).map pcE)] ++ dL) → Row x bb o (ks.map u64v) := fun x hx => by
        obtain ⟨_, _, he, hr⟩ := elem hx i hlt
        cases he
        exact hr
      have hj1 : (ks.map u64v)[j]? = some (u64v ks[j]) := by rw [List.getElem?_map, List.getElem?_eq_getElem (by omega)]; rfl
      have hi1 : (ks.map u64v)[i]? = some (u64v ks[i]) := by rw [List.getElem?_map, List.getElem?_eq_getElem hlt]; rfl
      have htk : ks.take (j + 1) = ks.take j ++ [ks[j]] := List.take_succ_eq_append_getElem (by omega)
      by_cases hf : ks[i] ∉ ks.take j
      · rw [decide_eq_true hf]
        repeat (first | (refine RunK ?_; intro w hL hB; try clear w) | (refine V.treeA ttOk hL (.q 0 (.q 1 (.q 2 (.q 3 (.q 4 (.q 5 (.q 6 (.q 7 (.q 8 (.q 9 (.q 10 (.q 11 (.q 12 .nil))))))))))))) mixed (by decide +kernel) ?_; replace hL := hL.drew; conv => whnf) | (refine V.tailA ttOk mixed (by decide +kernel) ?_; replace hL := hL.drew; conv => whnf) | (refine Both.mk ?_ ?_ <;> conv => whnf) | fail)
        intro o1 ho1
        conv => whnf
        repeat (first | (refine RunH ?_; intro w hL hB; try clear w) | (refine Both.mk ?_ ?_ <;> conv => whnf) | fail)
        refine Lq.of_class (fun x hx => Ld.row1 ttOk (rowAt x hx) (o' := o1) (k := j) tl32 rfl hj1 (by omega) rfl) ?_
        conv => whnf
        repeat (first | (refine RunH ?_; intro w hL hB; try clear w) | (refine Both.mk ?_ ?_ <;> conv => whnf) | fail)
        intro o2 ho2
        conv => whnf
        repeat (first | (refine RunH ?_; intro w hL hB; try clear w) | (refine Both.mk ?_ ?_ <;> conv => whnf) | fail)
        refine Lq.of_class (fun x hx => Ld.row1 ttOk (rowAt x hx) (o' := o2) (k := i) tl32 rfl hi1 (by omega) rfl) ?_
        conv => whnf
        repeat (first | (refine RunH ?_; intro w hL hB; try clear w) | (refine Both.mk ?_ ?_ <;> conv => whnf) | fail)
        refine ⟨j + 1, ⟨rfl, rfl, rfl, rfl, rfl, rfl, vboolE ?_, vint (by push_cast; omega), trivial⟩, ⟨by omega, hL, hB⟩, (by first | omega | (dsimp only; omega))⟩
        rw [Bool.eq_iff_iff]
        simp only [Bool.not_eq_true', decide_eq_false_iff_not, decide_eq_true_eq, htk, List.mem_append, List.mem_singleton, not_or]
        constructor
        · intro h
          exact ⟨hf, fun e => h (by rw [e])⟩
        · rintro ⟨_, h2⟩ h
          exact h2 (by omega)
      · have hf2 : ¬ ks[i] ∉ ks.take (j + 1) := fun h => hf fun h2 => h (by rw [htk]; exact List.mem_append_left _ h2)
        rw [decide_eq_false hf]
        repeat (first | (refine RunK ?_; intro w hL hB; try clear w) | (refine V.treeA ttOk hL (.q 0 (.q 1 (.q 2 (.q 3 (.q 4 (.q 5 (.q 6 (.q 7 (.q 8 (.q 9 (.q 10 (.q 11 (.q 12 .nil))))))))))))) mixed (by decide +kernel) ?_; replace hL := hL.drew; conv => whnf) | (refine V.tailA ttOk mixed (by decide +kernel) ?_; replace hL := hL.drew; conv => whnf) | (refine Both.mk ?_ ?_ <;> conv => whnf) | fail)
        exact ⟨j + 1, ⟨rfl, rfl, rfl, rfl, rfl, rfl, vboolE (decide_eq_false hf2).symm, vint (by push_cast; omega), trivial⟩, ⟨by omega, hL, hB⟩, (by first | omega | (dsimp only; omega))⟩
    have hji' : j = i := by omega
    subst hji'
    repeat (first | (refine RunK ?_; intro w hL hB; try clear w) | (refine V.tree ttOk (fun x0 => Sep Tryd.prog _ w0 x0 []) (.q 0 (.q 1 (.q 2 (.q 3 (.q 4 (.q 5 (.q 6 (.q 7 (.q 8 (.q 10 (.alt 9 (.alt 11 (.q 12 (.alt 13 (.q 14 .nil) .stop)) .stop) .stop))))))))))) mixed (by decide +kernel) (hL.drew.sub (List.nil_sublist _)) ?_; replace hL := hL.drew; conv => whnf) | (refine V.tailA ttOk mixed (by decide +kernel) ?_; replace hL := hL.drew; conv => whnf) | (refine Both.mk ?_ ?_ <;> conv => whnf) | fail)
    intro o1 ho1
    conv => whnf
    refine Lq.of_class (fun x hx => Ld.row1 ttOk (by obtain ⟨_, _, he, hr⟩ := elem hx j hlt; cases he; exact hr) (xs := ks.map u64v) (o := o) (o' := o1) (k := j) tl32 rfl (by rw [List.getElem?_map, List.getElem?_eq_getElem hlt]; rfl) (by omega) rfl) ?_
    conv => whnf
    repeat (first | (refine RunH ?_; intro w hL hB; try clear w) | (refine Both.mk ?_ ?_ <;> conv => whnf) | fail)
    refine Rv.buildS (len := 1) (vs := [u8 (UInt8.ofNat j)]) ttOk hL tl23 tl5 (by rw [show u8 (UInt8.ofNat j) = .int .u8 (j : Int) from by rw [u8]; congr 1; show ((UInt8.ofNat j).toNat : Int) = j; rw [UInt8.toNat_ofNat']; omega]; rfl) rfl (by intro u hu; simp only [List.mem_singleton] at hu; subst hu; rfl) (by decide) (by decide) hB fun bo w hL hB => ?_
    conv => whnf
    refine ⟨hL.sub (List.nil_sublist _), ?_⟩
    conv => whnf
    repeat (first | (refine RunH ?_; intro w hL hB; try clear w) | (refine Both.mk ?_ ?_ <;> conv => whnf) | fail)
    refine Rv.appendS (m := l.length) ttOk hL tl23 tl5 rfl (by decide) 0 rfl (by have := (hL.sl hsd rfl).toN; rw [bv_length] at this; exact this) (bv_one _) (by simp only [maxLen]; omega) (by omega) hB fun v' w hL hB => ?_
    dsimp only [List.set] at hL
    conv => whnf
    refine ⟨hL.sub (List.nil_sublist _), ?_⟩
    conv => whnf
    repeat (first | (refine RunH ?_; intro w hL hB; try clear w) | (refine Both.mk ?_ ?_ <;> conv => whnf) | fail)
    obtain ⟨va, vc, rfl⟩ := (show SlN w 1 v' (1 + l.length) _ from hL.rowN (i := 0) rfl).shape
    repeat (first | (refine RunH ?_; intro w hL hB; try clear w) | (refine Both.mk ?_ ?_ <;> conv => whnf) | fail)
    replace hL := hL.perm (List.perm_middle (l₁ := [_, _])).symm
    have hlR' : lenR Rs ≤ Rs.length * 236 := lenR_le fun r hr => (hok r hr).2.1
    have hfl : (vhd 3 ++ flat Rs).length = 8 + lenR Rs := by rw [List.length_append, h8, flatR_len]
    have hndp : NdP (plc 8 Rs) := by rw [NdP, plc_keys]; exact hnd
    have hszr := szR_le (⟨ks[j], j, false, UInt8.ofNat j :: l⟩ : Nd)
    dsimp only [List.length_cons] at hszr
    have hlR2 : Rs.length * 236 ≤ 60 * 236 := Nat.mul_le_mul_right _ (by omega)
    refine (vput_fn hn ks[j] j false _ (UInt8.ofNat j :: l) hki (by omega) hndp (fun w' h => (h.row (i := 0) rfl)) (close (F' := [_, _, _]) hL hB)).mono fun r w ⟨hr, hD⟩ => ?_
    clear hL hB close
    by_cases hf : ks[j] ∉ ks.take j
    · have hg : getP (plc 8 Rs) ks[j] = none := getP_none (by rw [plc_keys, hmem]; exact hf)
      have hput := one_put (room := (1048576 : Int).toNat) (nm := vnm 3) (d := vhd 3 ++ flat Rs) (xs := UInt8.ofNat j :: l) (ps := plc 8 Rs) (key := ks[j]) (cook := j) (dead := false) hnm (encNE_zero.2 ⟨by simp only [List.length_cons]; omega, fun h => by cases h⟩) (by rw [vputB, hg]) (by rw [hfl]; show _ + szR (⟨ks[j], j, false, UInt8.ofNat j :: l⟩ : Nd) ≤ _; omega) (by rw [hfl]; show _ + szR (⟨ks[j], j, false, UInt8.ofNat j :: l⟩ : Nd) ≤ 1048576; omega)
      rw [hfl, layP, hg] at hput
      have hput2 : putP (plc 8 Rs) ⟨ks[j], 8 + lenR Rs, szN (UInt8.ofNat j :: l).length, j, false⟩ = plc 8 Rs ++ [placeOf (8 + lenR Rs) (⟨ks[j], j, false, UInt8.ofNat j :: l⟩ : Nd)] := putA_new (getA_none hg)
      dsimp only at hput
      rw [hput2] at hput
      rw [hput.1] at hr
      rw [hput.2.1, hput.2.2] at hD
      subst hr
      have hD' : DkS w0.heap.size w0 w d (1048576 : Int).toNat (oneS (vnm 3) (vhd 3 ++ flat (Rs ++ [(⟨ks[j], j, false, UInt8.ofNat j :: l⟩ : Nd)]))) [.blk vv (volC d 3 (vnm 3) m) 63, .mp 32 m ((plc 8 (Rs ++ [(⟨ks[j], j, false, UInt8.ofNat j :: l⟩ : Nd)])).map pcE)] := by
        rw [flat_app, plc_snoc, ← List.append_assoc]
        obtain ⟨dL, hL, hB, close⟩ := hD.open
        have h := close (F' := [_, _]) (hL.sub (.cons_cons _ (.cons_cons _ (.cons _ (.refl _))))) hB
        simpa [flat, encR] using h
      clear hD
      obtain ⟨dL, hL, hB, close⟩ := hD'.open
      rw [decide_eq_true hf]
      conv => whnf
      refine ⟨hL.sub (List.nil_sublist _), ?_⟩
      conv => whnf
      repeat (first | (refine RunH ?_; intro w hL hB; try clear w) | (refine Both.mk ?_ ?_ <;> conv => whnf) | fail)
      have hnd' : ((Rs ++ [(⟨ks[j], j, false, UInt8.ofNat j :: l⟩ : Nd)]).map Nd.key).Nodup := by
        rw [List.map_append, List.nodup_append]
        refine ⟨hnd, by simp, ?_⟩
        intro a ha b hb
        simp only [List.map_cons, List.map_nil, List.mem_singleton] at hb
        subst hb
        rintro rfl
        exact hf ((hmem _).1 ha)
      have hmem' : ∀ k, k ∈ (Rs ++ [(⟨ks[j], j, false, UInt8.ofNat j :: l⟩ : Nd)]).map Nd.key ↔ k ∈ ks.take (j + 1) := by
        intro k
        rw [List.take_succ_eq_append_getElem hlt]
        simp only [List.map_append, List.mem_append, hmem, List.map_cons, List.map_nil, List.mem_singleton]
      have hrOk : OkRec (⟨ks[j], j, false, UInt8.ofNat j :: l⟩ : Nd) := ⟨hki, by show j < _; omega, encNE_zero.2 ⟨by simp only [List.length_cons]; omega, fun h => by cases h⟩⟩
      have hok' : ∀ r ∈ Rs ++ [(⟨ks[j], j, false, UInt8.ofNat j :: l⟩ : Nd)], OkRec r ∧ r.xs.length ≤ 201 ∧ r.dead = false := by
        intro r hr
        rcases List.mem_append.1 hr with hr | hr
        · exact hok r hr
        · simp only [List.mem_singleton] at hr
          subst hr
          exact ⟨hrOk, by simp only [List.length_cons]; omega, rfl⟩
      have hgl := plc_get_last (at_ := 8) hnd'
      have hrd := read_mem (H := vhd 3) (A := Rs) (C := []) hrOk
      rw [h8] at hrd
      have hE1 : vgetE (oneS (vnm 3) (vhd 3 ++ flat (Rs ++ [(⟨ks[j], j, false, UInt8.ofNat j :: l⟩ : Nd)]))) (vnm 3) (plc 8 (Rs ++ [(⟨ks[j], j, false, UInt8.ofNat j :: l⟩ : Nd)])) ks[j] j = 0 := by
        rw [vgetE, hgl]
        have ho := hrd.1
        dsimp only [placeOf] at ho ⊢
        rw [if_neg (by decide), if_neg (fun h => h rfl), one_dat, if_pos ho]
      have hD1 : vgetD (oneS (vnm 3) (vhd 3 ++ flat (Rs ++ [(⟨ks[j], j, false, UInt8.ofNat j :: l⟩ : Nd)]))) (vnm 3) (plc 8 (Rs ++ [(⟨ks[j], j, false, UInt8.ofNat j :: l⟩ : Nd)])) ks[j] = UInt8.ofNat j :: l := by
        rw [vgetD, hgl]
        dsimp only
        rw [one_dat, hrd.2, encR, data_enc hrOk.enc]
      have hE2 : vgetE (oneS (vnm 3) (vhd 3 ++ flat (Rs ++ [(⟨ks[j], j, false, UInt8.ofNat j :: l⟩ : Nd)]))) (vnm 3) (plc 8 (Rs ++ [(⟨ks[j], j, false, UInt8.ofNat j :: l⟩ : Nd)])) ks[j] (j + 1) = 10 := by
        rw [vgetE, hgl]
        dsimp only [placeOf]
        rw [if_neg (by decide), if_pos (by omega)]
      have hRl : (Rs ++ [(⟨ks[j], j, false, UInt8.ofNat j :: l⟩ : Nd)]).length ≤ j + 1 := by simp only [List.length_append, List.length_cons, List.length_nil]; omega
      generalize Rs ++ [(⟨ks[j], j, false, UInt8.ofNat j :: l⟩ : Nd)] = Rs' at *
      refine (crash_fn draw hdwr.2 (close (F' := [_, _]) hL hB)).mono fun r w hD => ?_
      rw [crash_oneS] at hD
      clear hL hB close
      obtain ⟨dL, hL, hB, close⟩ := hD.open
      clear hD
      conv => whnf
      repeat (first | (refine RunH ?_; intro w hL hB; try clear w) | (refine Both.mk ?_ ?_ <;> conv => whnf) | fail)
      refine (vopen_fn hn (close (F' := [_, _]) hL hB)).mono fun r w ⟨_, hr2⟩ => ?_
      obtain ⟨v2, m2, ps, o3, hsc, hnd2, hop, rfl, hD⟩ := hr2 (openOk h8)
      clear hL hB close hr2
      rw [one_dat, ← h8] at hsc
      obtain ⟨rfl, rfl⟩ := scan_clean Rs' (fun r hr => (hok' r hr).1) hsc
      rw [h8, fold_fresh _ _ _ (by simpa using hnd'), List.nil_append] at hD hnd2 hop
      simp only [cutAt] at hD
      obtain ⟨dL, hL, hB, close⟩ := hD.open
      clear hD
      conv => whnf
      repeat (first | (refine RunH ?_; intro w hL hB; try clear w) | (refine Both.mk ?_ ?_ <;> conv => whnf) | fail)
      intro o3 ho3
      conv => whnf
      refine Ld.row1 ttOk (by obtain ⟨_, _, he, hr⟩ := elem hL j hlt; cases he; exact hr) (xs := ks.map u64v) (o := o) (o' := o3) (k := j) tl32 rfl (by rw [List.getElem?_map, List.getElem?_eq_getElem hlt]; rfl) (by omega) ?_
      conv => whnf
      repeat (first | (refine RunH ?_; intro w hL hB; try clear w) | (refine Both.mk ?_ ?_ <;> conv => whnf) | fail)
      refine (vget_fn hn ks[j] j hki hnd2 hop (close (F' := [_, _, _, _]) hL hB)).mono fun r w hP => ?_
      rw [vgetPost, if_pos hE1, hD1] at hP
      obtain ⟨u, rfl, hD⟩ := hP
      clear hL hB close
      obtain ⟨dL, hL, hB, close⟩ := hD.open
      clear hD
      obtain ⟨ua, uc, rfl⟩ := (show SlN w 1 u _ _ from hL.rowN (i := 0) rfl).shape
      replace hL := hL.perm (List.perm_middle (l₁ := [_, _])).symm
      conv => whnf
      repeat (first | (refine RunH ?_; intro w hL hB; try clear w) | (refine Both.mk ?_ ?_ <;> conv => whnf) | fail)
      intro o4 ho4
      conv => whnf
      refine Ld.row1 ttOk (by obtain ⟨_, _, he, hr⟩ := elem hL j hlt; cases he; exact hr) (xs := ks.map u64v) (o := o) (o' := o4) (k := j) tl32 rfl (by rw [List.getElem?_map, List.getElem?_eq_getElem hlt]; rfl) (by omega) ?_
      conv => whnf
      repeat (first | (refine RunH ?_; intro w hL hB; try clear w) | (refine Both.mk ?_ ?_ <;> conv => whnf) | fail)
      refine (vget_fn hn ks[j] (j + 1) hki hnd2 hop (close (F' := [_, _, _, _, _]) hL hB)).mono fun r w hP => ?_
      rw [vgetPost, if_neg (by rw [hE2]; decide), hE2] at hP
      obtain ⟨rfl, hD⟩ := hP
      clear hL hB close
      obtain ⟨dL, hL, hB, close⟩ := hD.open
      clear hD
      conv => whnf
      repeat (first | (refine RunH ?_; intro w hL hB; try clear w) | (refine Both.mk ?_ ?_ <;> conv => whnf) | fail)
      refine Rv.buildS (len := 1) (vs := [u8 (UInt8.ofNat j)]) ttOk hL tl23 tl5 (by rw [show u8 (UInt8.ofNat j) = .int .u8 (j : Int) from by rw [u8]; congr 1; show ((UInt8.ofNat j).toNat : Int) = j; rw [UInt8.toNat_ofNat']; omega]; rfl) rfl (by intro u hu; simp only [List.mem_singleton] at hu; subst hu; rfl) (by decide) (by decide) hB fun bo w hL hB => ?_
      conv => whnf
      repeat (first | (refine RunH ?_; intro w hL hB; try clear w) | (refine Both.mk ?_ ?_ <;> conv => whnf) | fail)
      refine Rv.appendS (m := l.length) ttOk hL tl23 tl5 rfl (by decide) 0 rfl (by have := (hL.sl hsd rfl).toN; rw [bv_length] at this; exact this) (bv_one _) (by simp only [maxLen]; omega) (by omega) hB fun v' w hL hB => ?_
      dsimp only [List.set] at hL
      conv => whnf
      repeat (first | (refine RunH ?_; intro w hL hB; try clear w) | (refine Both.mk ?_ ?_ <;> conv => whnf) | fail)
      refine (same_fn _ _ (UInt8.ofNat j :: l) (UInt8.ofNat j :: l) _ (hL.row (i := 3) rfl) (hL.row (i := 0) rfl)).mono fun r w ⟨hr, hw⟩ => ?_
      subst hr
      replace hL := hL.call hB (Turns.of_below hw)
      replace hB := Nat.le_trans hB hw.size
      rw [decide_eq_true rfl]
      conv => whnf
      repeat (first | (refine RunH ?_; intro w hL hB; try clear w) | (refine Both.mk ?_ ?_ <;> conv => whnf) | fail)
      exact ⟨(j + 1, v2, m2, Rs'), ⟨rfl, rfl, rfl, rfl, rfl, vint (by push_cast; omega), trivial⟩, ⟨by dsimp only; omega, hnd', hmem', hok', hRl, close (F' := [_, _]) (hL.sub (.cons _ (.cons_cons _ (.cons_cons _ (.cons _ (.cons _ (.cons _ (.refl _)))))))) hB⟩, (by first | omega | (dsimp only; omega))⟩
    · have hf2 : ks[j] ∈ ks.take j := Decidable.not_not.1 hf
      have hRk : ks[j] ∈ (plc 8 Rs).map Pc.key := by rw [plc_keys, hmem]; exact hf2
      obtain ⟨p, hp, hpk, hg⟩ := getP_some hRk
      have hpd : p.dead = false := by
        obtain ⟨A, r, C, hR, rfl⟩ := plc_mem hp
        exact (hok r (by rw [hR]; simp)).2.2
      have hB8 : vputB (plc 8 Rs) ks[j] false = 8 := by rw [vputB, hg]; simp [hpd]
      have hbad := put_bad (room := (1048576 : Int).toNat) (S := oneS (vnm 3) (vhd 3 ++ flat Rs)) (nm := vnm 3) (ps := plc 8 Rs) (key := ks[j]) (cook := j) (dead := false) (xs := UInt8.ofNat j :: l) (.inr (by rw [hB8]; decide))
      rw [if_neg (fun h => h (encNE_zero.2 ⟨by simp only [List.length_cons]; omega, fun h => by cases h⟩)), hB8] at hbad
      rw [hbad.1] at hr
      rw [hbad.2.1, hbad.2.2] at hD
      subst hr
      obtain ⟨dL, hL, hB, close⟩ := hD.open
      clear hD
      rw [decide_eq_false hf]
      conv => whnf
      refine ⟨hL.sub (List.nil_sublist _), ?_⟩
      conv => whnf
      repeat (first | (refine RunH ?_; intro w hL hB; try clear w) | (refine Both.mk ?_ ?_ <;> conv => whnf) | fail)
      refine ⟨(j + 1, vv, m, Rs), ⟨rfl, rfl, rfl, rfl, rfl, vint (by push_cast; omega), trivial⟩, ⟨by dsimp only; omega, hnd, fun k => ?_, hok, by dsimp only; omega, close (F' := [_, _]) (hL.sub (.cons_cons _ (.cons_cons _ (.cons _ (.refl _))))) hB⟩, (by first | omega | (dsimp only; omega))⟩
      rw [hmem]
      dsimp only
      rw [List.take_succ_eq_append_getElem hlt, List.mem_append, List.mem_singleton]
      exact ⟨.inl, fun h => h.elim id (by rintro rfl; exact hf2)⟩
  obtain ⟨dL, hL, hB, close⟩ := hD.open
  clear hD
  repeat (first | (refine RunH ?_; intro w hL hB; try clear w) | (refine Both.mk ?_ ?_ <;> conv => whnf) | (refine (knownV_fn _).mono fun r w hr => ?_; obtain ⟨hr, hw⟩ := hr; subst hr; replace hL := hL.call hB (Turns.of_below hw); replace hB := Nat.le_trans hB hw.size; conv => whnf) | fail)
  exact ⟨rfl, hL.below⟩
end Go.Proofs.YtpkealgeigpjpaaDoor
