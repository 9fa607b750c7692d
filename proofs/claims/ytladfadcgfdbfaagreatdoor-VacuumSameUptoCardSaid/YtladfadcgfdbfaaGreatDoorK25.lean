/- VolumeRots, plain. The part of XUp that is for any seat. Nothing is claimed here. -/
import Derived.Test.YtladfadcgfdbfaaGreatDoorK24
import Derived.Test.YtladfadcgfdbfaaGreatDoorK23
import Derived.Test.YtladfadcgfdbfaaGreatDoorK21
namespace Go.Proofs.YtladfadcgfdbfaaGreatDoor
open Go.RowKit
set_option linter.unusedVariables false
set_option linter.unusedSimpArgs false
set_option maxRecDepth 100000

theorem layP_mem {ps : List Pc} {q p : Pc} (h : p ∈ layP ps q) : p ∈ ps ∨ p = q := by
  unfold layP at h
  split at h
  · exact (putA_mem h).symm
  · split at h
    · exact (putA_mem h).symm
    · exact .inl h
theorem foldP_mem : ∀ (Rs : List Nd) {at_ : Nat} {ps : List Pc} {p : Pc}, p ∈ foldP at_ ps Rs → p ∈ ps ∨ p ∈ plc at_ Rs
  | [], _, _, _, h => .inl h
  | r :: rs, at_, ps, p, h => by
    rcases foldP_mem rs h with h | h
    · rcases layP_mem h with h | rfl
      · exact .inl h
      · exact .inr (by simp [plc])
    · exact .inr (by simp [plc, h])
/-- a file with one byte that rots is gone through: no other places are told -/
theorem scan_rot : ∀ (Rs : List Nd) {H : List UInt8} {ps ps' : List Pc} {o : Option Nat} {k : Nat} {z : UInt8}, (∀ r ∈ Rs, OkRec r) → H.length ≤ k → (H ++ flat Rs)[k]? ≠ some z → Scan ((H ++ flat Rs).set k z) H.length ps ps' o → ∀ p ∈ ps', p ∈ ps ∨ p ∈ plc H.length Rs
  | [], H, ps, ps', o, k, z, _, hk, _, h => by
    rw [List.set_eq_of_length_le (by simp [flat]; exact hk)] at h
    intro p hp
    rw [(scan_clean [] (by simp) h).1] at hp
    exact foldP_mem [] hp
  | r :: rs, H, ps, ps', o, k, z, hok, hk, hz, h => by
    have hr := hok r (by simp)
    obtain ⟨hx, hd⟩ := encNE_zero.1 hr.enc
    have hsz := szR_le r
    have hel := encR_len r
    have hdrop : ((H ++ flat (r :: rs)).set k z).drop H.length = (encN r.key r.cook r.dead r.xs ++ flat rs).set (k - H.length) z := by
      rw [List.drop_set, if_neg (by omega), drop_rec]
    have hlen : ((H ++ flat (r :: rs)).set k z).length = H.length + (szR r + lenR rs) := by
      rw [List.length_set, List.length_append, flatR_len]; simp [lenR]
    by_cases hin : k < H.length + szR r
    · -- in this record
      have hj : k - H.length < (encN r.key r.cook r.dead r.xs).length := by show _ < (encR r).length; omega
      have hzj : (encN r.key r.cook r.dead r.xs)[k - H.length]? ≠ some z := by
        have e : (H ++ flat (r :: rs))[k]? = (encN r.key r.cook r.dead r.xs)[k - H.length]? := by
          rw [List.getElem?_append_right hk]
          show (encR r ++ flat rs)[k - H.length]? = (encR r)[k - H.length]?
          rw [List.getElem?_append_left (by omega)]
        rwa [e] at hz
      by_cases h24 : k - H.length < 24
      · have hf := rot_head (rest := flat rs) hzj h24
        cases h with
        | over _ _ h => omega
        | cut _ _ _ _ => exact fun p hp => .inl hp
        | step _ _ _ _ _ hE _ =>
          rw [hdrop, dE] at hE
          split at hE
          · omega
          · first | omega | (rw [if_pos hf] at hE; omega)
      · have h24' : 24 ≤ k - H.length := by omega
        cases h with
        | over _ _ h => omega
        | cut _ _ _ _ => exact fun p hp => .inl hp
        | step _ _ _ _ _ hE hs =>
          rw [hdrop, rot_key hr.key h24', rot_cook hr.cook h24', (rot_keeps hx h24').1, (rot_keeps hx h24').2] at hs
          have e : (H ++ flat (r :: rs)).set k z = (H ++ (encR r).set (k - H.length) z) ++ flat rs := by
            rw [List.set_append_right _ _ hk]
            show H ++ (encR r ++ flat rs).set (k - H.length) z = _
            rw [List.set_append_left _ _ (by omega), List.append_assoc]
          have el : H.length + szN r.xs.length = (H ++ (encR r).set (k - H.length) z).length := by rw [List.length_append, List.length_set, hel]; rfl
          rw [e, el] at hs
          obtain ⟨h1, _⟩ := scan_clean rs (fun q hq => hok q (by simp [hq])) hs
          intro p hp
          rw [h1] at hp
          rw [← el] at hp
          rcases foldP_mem rs hp with hp | hp
          · rcases layP_mem hp with hp | rfl
            · exact .inl hp
            · exact .inr (by simp [plc]; exact .inl rfl)
          · exact .inr (by simp only [plc, List.mem_cons]; exact .inr hp)
    · -- behind it
      have e0 := enc_E (rest := (flat rs).set (k - H.length - szR r) z) hr.key hr.cook hx hd
      have hd2 : ((H ++ flat (r :: rs)).set k z).drop H.length = encN r.key r.cook r.dead r.xs ++ (flat rs).set (k - H.length - szR r) z := by
        rw [hdrop]
        show (encR r ++ flat rs).set (k - H.length) z = encR r ++ _
        rw [List.set_append_right _ _ (by omega), hel]
      cases h with
      | over _ _ h => omega
      | cut _ _ _ hE => rw [hd2, e0] at hE; omega
      | step _ _ _ _ _ _ hs =>
        rw [hd2, enc_size hx, enc_key hr.key, enc_cook hr.cook, enc_dead] at hs
        have e : H ++ flat (r :: rs) = (H ++ encR r) ++ flat rs := by simp [flat]
        have el : H.length + szN r.xs.length = (H ++ encR r).length := by rw [List.length_append, hel]; rfl
        rw [e] at hs hz
        rw [el] at hs
        intro p hp
        have := scan_rot rs (fun q hq => hok q (by simp [hq])) (by rw [List.length_append, hel]; omega) hz hs p hp
        rw [← el] at this
        rcases this with h | h
        · rcases layP_mem h with h | rfl
          · exact .inl h
          · exact .inr (by simp [plc]; exact .inl rfl)
        · exact .inr (by simp only [plc, List.mem_cons]; exact .inr h)
theorem win_take {l : List UInt8} {a n c : Nat} (h : a + n ≤ c) : Go.Proofs.YtladfadcgfdbfaaGreatDoor.win (l.take c) a n = Go.Proofs.YtladfadcgfdbfaaGreatDoor.win l a n := by
  rw [win, win, List.drop_take, List.take_take, Nat.min_eq_left (by omega)]
section
variable {H : List UInt8} {A C : List Nd} {r : Nd} {k c : Nat} {z : UInt8} (hr : OkRec r)
theorem rec_at : rec (H ++ flat (A ++ r :: C)) (placeOf (H.length + lenR A) r) = encR r := by
  have e : H ++ flat (A ++ r :: C) = (H ++ flat A) ++ encR r ++ flat C := by
    rw [flat_app]; simp only [flat, List.flatMap_cons, List.append_assoc]
  rw [e, rec]
  exact win_app' (by rw [List.length_append, flatR_len]; rfl) (encR_len r)
include hr in
/-- of a rotten record nothing is told -/
theorem rot_read (hz : (H ++ flat (A ++ r :: C))[k]? ≠ some z) (h : readOk (((H ++ flat (A ++ r :: C)).set k z).take c) (placeOf (H.length + lenR A) r)) : dData (rec (((H ++ flat (A ++ r :: C)).set k z).take c) (placeOf (H.length + lenR A) r)) = r.xs := by
  obtain ⟨hx, hd⟩ := encNE_zero.1 hr.enc
  have hel := encR_len r
  have hc : (placeOf (H.length + lenR A) r).at_ + (placeOf (H.length + lenR A) r).n ≤ c := by
    have := h.1
    rw [List.length_take] at this; omega
  have hrec : rec (((H ++ flat (A ++ r :: C)).set k z).take c) (placeOf (H.length + lenR A) r) = rec ((H ++ flat (A ++ r :: C)).set k z) (placeOf (H.length + lenR A) r) := by
    rw [rec, rec]; exact win_take hc
  have hE := h.2.1
  rw [hrec] at hE ⊢
  by_cases hin : H.length + lenR A ≤ k ∧ k < H.length + lenR A + szR r
  · exfalso
    have hj : k - (H.length + lenR A) < (encN r.key r.cook r.dead r.xs).length := by show _ < (encR r).length; omega
    have e1 : rec ((H ++ flat (A ++ r :: C)).set k z) (placeOf (H.length + lenR A) r) = (encR r).set (k - (H.length + lenR A)) z := by
      rw [rec, win_set]
      show (if H.length + lenR A ≤ k ∧ k < H.length + lenR A + szR r then _ else _) = _
      rw [if_pos hin]
      exact congrArg (fun l : List UInt8 => l.set (k - (H.length + lenR A)) z) rec_at
    have hzj : (encN r.key r.cook r.dead r.xs)[k - (H.length + lenR A)]? ≠ some z := by
      have e := congrArg (fun l : List UInt8 => l[k - (H.length + lenR A)]?) (rec_at (H := H) (A := A) (C := C) (r := r))
      simp only [rec, win] at e
      rw [List.getElem?_take_of_lt (by show k - (H.length + lenR A) < szR r; omega), List.getElem?_drop, show (placeOf (H.length + lenR A) r).at_ + (k - (H.length + lenR A)) = k from by show H.length + lenR A + _ = k; omega] at e
      rw [e] at hz
      exact hz
    rw [e1] at hE
    have e2 : (encR r).set (k - (H.length + lenR A)) z = (encN r.key r.cook r.dead r.xs ++ []).set (k - (H.length + lenR A)) z := by rw [List.append_nil]; rfl
    rw [e2] at hE
    by_cases h24 : k - (H.length + lenR A) < 24
    · have hf := rot_head (rest := []) hzj h24
      rw [dE] at hE
      split at hE
      · cases hE
      · first | cases hE | (rw [if_pos hf] at hE; cases hE)
    · exact rot_tail hx hj hzj (by omega) hE
  · have e1 : rec ((H ++ flat (A ++ r :: C)).set k z) (placeOf (H.length + lenR A) r) = encR r := by
      rw [rec, win_set]
      show (if H.length + lenR A ≤ k ∧ k < H.length + lenR A + szR r then _ else _) = _
      rw [if_neg hin]
      exact rec_at
    rw [e1]
    exact data_enc hr.enc
include hr in
theorem rot_out (hout : ¬ (H.length + lenR A ≤ k ∧ k < H.length + lenR A + szR r)) : readOk ((H ++ flat (A ++ r :: C)).set k z) (placeOf (H.length + lenR A) r) := by
  have h := read_mem (H := H) (A := A) (C := C) hr
  have e1 : rec ((H ++ flat (A ++ r :: C)).set k z) (placeOf (H.length + lenR A) r) = rec (H ++ flat (A ++ r :: C)) (placeOf (H.length + lenR A) r) := by
    rw [rec, rec, win_set]
    show (if H.length + lenR A ≤ k ∧ k < H.length + lenR A + szR r then _ else _) = _
    rw [if_neg hout]
  have h1 := h.1
  rw [readOk] at h1 ⊢
  rw [e1, List.length_set]
  exact h1
end
/-- the records of rows -/
def recsR (xs : List (Value × List UInt8)) : List Nd := xs.mapIdx fun i p => ⟨i, 7, false, p.2⟩
theorem recsR_snoc {xs : List (Value × List UInt8)} {k : Nat} (h : k < xs.length) : recsR (xs.take (k + 1)) = recsR (xs.take k) ++ [⟨k, 7, false, (xs[k]).2⟩] := by
  rw [recsR, List.take_succ_eq_append_getElem h, List.mapIdx_append]
  simp [recsR, Nat.min_eq_left (Nat.le_of_lt h)]
theorem recsR_keys (xs : List (Value × List UInt8)) : (recsR xs).map Nd.key = List.range xs.length := by
  rw [recsR]
  apply List.ext_getElem
  · simp
  · intro i h1 h2
    simp
theorem recsR_get {xs : List (Value × List UInt8)} {k : Nat} (h : k < xs.length) : ∃ A C, recsR xs = A ++ ⟨k, 7, false, (xs[k]).2⟩ :: C ∧ A.length = k := by
  refine ⟨(recsR xs).take k, (recsR xs).drop (k + 1), ?_, by simp [recsR]; omega⟩
  have hl : k < (recsR xs).length := by simp [recsR]; exact h
  have : (recsR xs)[k] = ⟨k, 7, false, (xs[k]).2⟩ := by simp [recsR]
  rw [← this, List.getElem_cons_drop, List.take_append_drop]
end Go.Proofs.YtladfadcgfdbfaaGreatDoor
namespace Go.Proofs.YtladfadcgfdbfaaGreatDoor
open Go.RowKit
open Go.Maps (Keyed)
set_option linter.unusedVariables false
set_option linter.unusedSimpArgs false
set_option maxRecDepth 100000

def noPc (k : Nat) : Pc := ⟨k, 0, 0, 0, false⟩
def plsOf (ps : List Pc) : List Pc := (sortedK ps).map fun k => (getP ps k).getD (noPc k)
theorem sortedK_len (ps : List Pc) : (sortedK ps).length = ps.length := by rw [sortedK, List.length_mergeSort, List.length_map]
theorem sortedK_mem {ps : List Pc} {k : Nat} : k ∈ sortedK ps ↔ k ∈ ps.map Pc.key := by rw [sortedK, List.mem_mergeSort]
theorem getP_some' {ps : List Pc} {k : Nat} (h : k ∈ ps.map Pc.key) : ∃ p ∈ ps, p.key = k ∧ getP ps k = some p := by
  cases hg : getP ps k with
  | none =>
    obtain ⟨p, hp, he⟩ := List.mem_map.1 h
    exact absurd he (getA_none hg p hp)
  | some p =>
    obtain ⟨h1, h2⟩ := getA_some hg
    exact ⟨p, h2, h1, rfl⟩
section
variable {B : Nat} {w0 w : World} {L : List Res}
theorem Rv.pcGet (hL : Sep Tryz.prog B w0 w L) {K : Value → World → Prop} (n : Nat) {m : Nat} {ps : List Pc} {k : Nat} {p : Pc} (hn : L[n]? = some (.mp 38 m (ps.map pcE))) (hnd : NdP ps) (hk64 : k < 18446744073709551616) (hg : getP ps k = some p) (hk : K (pcV p) w) :
    Rv Tryz.prog (Instr.lookup 98 (.map (some m)) (q64 k) false) w K := by
  refine Rv.seekS ttOk hL u64K n tl98 tl87 hn (good64 hk64) fun u ok hgot => ?_
  rcases got_assoc (key := Pc.key) (enc := encK) (val := pcV) encK_inj hnd hgot with ⟨a, h1, rfl, rfl⟩ | ⟨h1, rfl, rfl⟩
  · rw [getP, h1] at hg; cases hg; exact hk
  · rw [getP, h1] at hg; cases hg
variable {d v m room id : Nat} {nm : ByteArray} {S : List Fl} {ps : List Pc} {F : List Res}
set_option maxHeartbeats 4000000 in
theorem vplaces_fn (hnd : NdP ps) (hok : OkP ps) (hps : ps.length ≤ 1000000) (hD : DkS B w0 w d room S (.blk v (volC d id nm m) 100 :: .mp 38 m (ps.map pcE) :: F)) :
    Fn Tryz.prog 32 #[ptr v] w fun r w' => DkS B w0 w' d room S (.row 87 5 r ps.length ((plsOf ps).flatMap pcC) :: .blk v (volC d id nm m) 100 :: .mp 38 m (ps.map pcE) :: F) := by
  obtain ⟨dL, hL, hB, close⟩ := hD.open
  rw [volC] at hL
  have hpl : (plsOf ps).length = ps.length := by rw [plsOf, List.length_map, sortedK_len]
  refine Fn.mk Tryz.func32 rfl (by kernel_rfl) Tryz.ntmps32 rfl (by rw [Tryz.results32]) ?_
  repeat (first | (refine RunH ?_; intro w hL hB; try clear w) | (refine Both.mk ?_ ?_ <;> conv => whnf) | fail)
  refine (keysFnQ 1 rfl hL hB).mono fun r w ⟨c, hr, hL, hB⟩ => ?_
  subst hr
  conv => whnf
  repeat (first | (refine RunH ?_; intro w hL hB; try clear w) | (refine Both.mk ?_ ?_ <;> conv => whnf) | fail)
  refine (sortedFnQ c 1 rfl hnd hps hL hB).mono fun r w ⟨hL, hB⟩ => ?_
  obtain ⟨sa, sc, rfl⟩ := (show SlN w 1 r _ _ from hL.rowN (i := 0) rfl).shape
  replace hL := hL.addRow hB (Below.refl _ _) (e := 87) (sz := 5) (v := .slice none 0 0) (n := 0) (xs := []) ⟨rfl, .inl ⟨rfl, rfl⟩⟩
  conv => whnf
  repeat (first | (refine RunH ?_; intro w hL hB; try clear w) | (refine Both.mk ?_ ?_ <;> conv => whnf) | fail)
  refine V.loop (α := Nat × Option Addr × Nat) (fun z => [(0, ptr v), (3, .slice z.2.1 z.1 z.2.2), (13, .slice sa ps.length sc), (14, .int .i64 (ps.length : Int)), (15, .int .i64 (z.1 : Int))])
    (fun z w' => z.1 ≤ ps.length ∧ Sep Tryz.prog B w0 w' (.row 87 5 (.slice z.2.1 z.1 z.2.2) z.1 (((plsOf ps).take z.1).flatMap pcC) :: .row 38 1 (.slice sa ps.length sc) ps.length ((sortedK ps).map q64) :: .blk v [ptr d, .int .i64 (id : Int), .string nm, .map (some m)] 100 :: .mp 38 m (ps.map pcE) :: (F ++ dL)) ∧ B ≤ w'.heap.size) (fun z => ps.length - z.1) (0, none, 0) ⟨rfl, rfl, rfl, rfl, rfl, trivial⟩ ⟨Nat.zero_le _, hL, hB⟩ ?_
  clear hL hB
  rintro ⟨k, ra, rc⟩ w ⟨hk, hL, hB⟩
  dsimp only at hk hL ⊢
  by_cases hlt : k < ps.length
  · have hsl : k < (sortedK ps).length := by rw [sortedK_len]; exact hlt
    have hkm : (sortedK ps)[k] ∈ ps.map Pc.key := sortedK_mem.1 (List.getElem_mem hsl)
    obtain ⟨p, hp, hpk, hg⟩ := getP_some' hkm
    have hpp := hok p hp
    have htk : (plsOf ps).take (k + 1) = (plsOf ps).take k ++ [p] := by
      rw [List.take_succ_eq_append_getElem (by omega)]
      congr 2
      simp only [plsOf, List.getElem_map, hg, Option.getD_some]
    have hx1 : ((sortedK ps).map q64)[k]? = some (q64 (sortedK ps)[k]) := by rw [List.getElem?_map, List.getElem?_eq_getElem hsl]; rfl
    have hrow : ∃ b o, sa = some ⟨b, o, none⟩ ∧ Row w b o ((sortedK ps).map q64) := (show Sl w (.slice sa ps.length sc) _ from hL.row (i := 1) rfl).addr (by omega)
    obtain ⟨bb, o, rfl, hrow⟩ := hrow
    generalize hkk : (sortedK ps)[k] = kk at *
    repeat (first | (refine RunH ?_; intro w hL hB; try clear w) | (refine Both.mk ?_ ?_ <;> conv => whnf) | fail)
    intro o1 ho1
    conv => whnf
    refine Ld.row1 ttOk hrow (k := k) tl38 rfl hx1 (by omega) ?_
    conv => whnf
    repeat (first | (refine RunH ?_; intro w hL hB; try clear w) | (refine Both.mk ?_ ?_ <;> conv => whnf) | (refine Rv.pcGet hL 3 rfl hnd (by omega) hg ?_; conv => whnf) | fail)
    refine Rv.buildS (len := 1) (vs := [pcV p]) ttOk hL tl73 tl87 rfl rfl (by intro u hu; simp only [List.mem_singleton] at hu; subst hu; rfl) (by decide) (by decide) hB fun bo w hL hB => ?_
    replace hL : Sep Tryz.prog B w0 w (.row 87 5 (.slice (some ⟨bo, 0, none⟩) 1 1) 1 (pcC p) :: _) := hL
    conv => whnf
    repeat (first | (refine RunH ?_; intro w hL hB; try clear w) | (refine Both.mk ?_ ?_ <;> conv => whnf) | fail)
    refine Rv.appendS (m := 1) ttOk hL tl73 tl87 rfl (by decide) 1 rfl (hL.rowN (i := 0) rfl) (by intro u hu; simp only [pcC, List.mem_cons, List.not_mem_nil, or_false] at hu; rcases hu with rfl | rfl | rfl | rfl | rfl <;> rfl) (by simp only [maxLen]; omega) (by omega) hB fun v' w hL hB => ?_
    dsimp only [List.set] at hL
    obtain ⟨va, vc, rfl⟩ := (show SlN w 5 v' (k + 1) _ from hL.rowN (i := 1) rfl).shape
    conv => whnf
    repeat (first | (refine RunH ?_; intro w hL hB; try clear w) | (refine Both.mk ?_ ?_ <;> conv => whnf) | fail)
    refine ⟨(k + 1, va, vc), ⟨rfl, rfl, rfl, rfl, vint (by push_cast; omega), trivial⟩, ⟨by dsimp only; omega, ?_, hB⟩, (by first | omega | (dsimp only; omega))⟩
    dsimp only
    rw [htk, List.flatMap_append]
    simpa using hL.tl
  · obtain rfl : k = ps.length := by omega
    repeat (first | (refine RunH ?_; intro w hL hB; try clear w) | (refine Both.mk ?_ ?_ <;> conv => whnf) | fail)
    rw [← hpl, List.take_length] at hL
    rw [← hpl]
    exact close (F' := _ :: _ :: _ :: F) (hL.sub (.cons_cons _ (.cons _ (.refl _)))) hB
end
end Go.Proofs.YtladfadcgfdbfaaGreatDoor
namespace Go.Proofs.YtladfadcgfdbfaaGreatDoor
open Go.RowKit
open Go.Maps (Keyed)
set_option linter.unusedVariables false
set_option linter.unusedSimpArgs false
set_option maxRecDepth 100000

theorem pcKeyed : WideMaps.KeyLaw Tryz.prog 87 := deep_law_gate (by kernel_rfl) (of_decide_eq_true (by kernel_rfl)) (of_decide_eq_true (by kernel_rfl)) (by kernel_rfl) (by kernel_rfl)
theorem pcKey : Tryz.prog.keyType 87 = true := by kernel_rfl
theorem pcSmall : 5 ≤ Tryz.prog.types.size + 1 ∧ Tryz.prog.types.size + 1 ≤ 10000 := of_decide_eq_true (by kernel_rfl)
structure PcOk (p : Pc) : Prop where
  key : p.key < 18446744073709551616
  at_ : p.at_ < 9223372036854775808
  n : p.n < 9223372036854775808
  cook : p.cook < 4294967296
theorem wfU64 {d : Nat} (h : d < 18446744073709551616) : (Lit.int .u64 (d : Int)).wf = true := by
  simp only [Lit.wf, IntKind.min, IntKind.max, IntKind.bits, IntKind.signed, Bool.and_eq_true, decide_eq_true_eq]
  simp; omega
theorem wfU32 {d : Nat} (h : d < 4294967296) : (Lit.int .u32 (d : Int)).wf = true := by
  simp only [Lit.wf, IntKind.min, IntKind.max, IntKind.bits, IntKind.signed, Bool.and_eq_true, decide_eq_true_eq]
  simp; omega
theorem wfI64 {d : Int} (h : -9223372036854775808 ≤ d ∧ d ≤ 9223372036854775807) : (Lit.int .i64 d).wf = true := by
  simp only [Lit.wf, IntKind.min, IntKind.max, IntKind.bits, IntKind.signed, Bool.and_eq_true, decide_eq_true_eq]
  simp; omega
theorem pcGood (p : Pc) (h : PcOk p) : Good Tryz.prog 87 (.agg (pcC p).toArray) := by
  refine good_struct ttOk 5 tl87 pcKey pcSmall.1 (cs := pcC p) ?_
  have h1 := h.at_
  have h2 := h.n
  exact ⟨rfl, wfU64 h.key, wfI64 (by omega), wfI64 (by omega), wfU32 h.cook, trivial, trivial⟩
theorem Eg.pc {p : Pc} {K : Bool → Prop} (hp : PcOk p) (h : K true) : Eg Tryz.prog 87 (pcC p).toArray (pcC p).toArray K := by
  refine Eg.key pcKeyed pcSmall.2 pcKey (by kernel_rfl) (by kernel_rfl) (pcGood p hp) (pcGood p hp) fun r hr => ?_
  rw [hr.2 rfl]
  exact h
theorem pcC_flat (l : List Pc) : (l.flatMap pcC).length = 5 * l.length := by
  induction l with
  | nil => rfl
  | cons a l ih => rw [List.flatMap_cons, List.length_append, ih, pcC_len, List.length_cons]; omega
end Go.Proofs.YtladfadcgfdbfaaGreatDoor
