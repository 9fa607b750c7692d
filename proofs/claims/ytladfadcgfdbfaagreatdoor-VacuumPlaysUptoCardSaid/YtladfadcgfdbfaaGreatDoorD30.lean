/- vacuum: Commit, Clear. vacuum, plain: what a volume's file says, and what it says when it is written anew. Nothing is claimed here. -/
import Derived.Test.YtladfadcgfdbfaaGreatDoorD29
namespace Go.Proofs.YtladfadcgfdbfaaGreatDoor
open Go.RowKit
set_option linter.unusedVariables false
set_option linter.unusedSimpArgs false
set_option maxRecDepth 100000
/-- what Commit lays ahead of its rename: the disk, the error -/
def comS (room : Nat) (sh : ByteArray) (D : List UInt8) (ps : List Pc) (New : List Nd) (S : List Fl) : List Fl × Nat :=
  if (stepS room sh D ps ps.length S).2.2 = 0 then lateS room sh New (stepS room sh D ps ps.length S).1 else ((stepS room sh D ps ps.length S).1, (stepS room sh D ps ps.length S).2.2)
theorem stepS_get {room : Nat} {nm sh : ByteArray} {D : List UInt8} (h : nm ≠ sh) : ∀ {ps : List Pc} {n : Nat} {S : List Fl}, getS (stepS room sh D ps n S).1 nm = getS S nm
  | [], n, S => by rw [stepS_nil]
  | _ :: _, 0, S => rfl
  | p :: ps, n + 1, S => by
    rw [stepS]
    split
    · exact (stepS_get h).trans (get_app_ne h)
    · rfl
section
variable {B d j room id bg : Nat} {nm sh : ByteArray} {S : List Fl} {F : List Res} {w0 w : World}
/-- what Commit says, and leaves -/
def Comd (B : Nat) (w0 : World) (d room id : Nat) (nm sh : ByteArray) (Y : List Fl × Nat) (j bg : Nat) (F : List Res) (r : Value) (w' : World) : Prop :=
  (Y.2 ≠ 0 → ∃ lv, r = .tuple #[.pointer none, .int .i64 (Y.2 : Nat)] ∧ DkS B w0 w' d room (delS Y.1 sh) (.blk j (jC d id nm sh lv bg (funcJ j) true) 76 :: F)) ∧
  (Y.2 = 0 → (openE (renS (syncS Y.1 sh) sh nm) nm id ≠ 0 → ∃ lv, r = .tuple #[.pointer none, .int .i64 (openE (renS (syncS Y.1 sh) sh nm) nm id : Nat)] ∧ DkS B w0 w' d room (renS (syncS Y.1 sh) sh nm) (.blk j (jC d id nm sh lv bg (funcJ j) true) 76 :: F)) ∧
    (openE (renS (syncS Y.1 sh) sh nm) nm id = 0 → ∃ lv v m ps o, Scan (datS (renS (syncS Y.1 sh) sh nm) nm) 8 [] ps o ∧ NdP ps ∧ OkP ps ∧ r = .tuple #[ptr v, .int .i64 0] ∧
      DkS B w0 w' d room (cutAt (renS (syncS Y.1 sh) sh nm) nm o) (.blk v (volC d id nm m) 100 :: .mp 38 m (ps.map pcE) :: .blk j (jC d id nm sh lv bg (funcJ j) true) 76 :: F)))
set_option maxHeartbeats 16000000 in
theorem commit_fn (hn : NameIn B w0 id nm) (hsh : sh.size ≤ 1000000) (hne : nm ≠ sh) (A New : List Nd) (hok : ∀ r ∈ New, OkRec r) (la : Nat) (hbg : bg = 8 + lenR A) (hg : getS S nm = some ⟨nm, vhd id ++ flat (A ++ New), la⟩)
    (rv lv : Value) (k : Nat) (ls : List Pc) (hk : k ≤ ls.length) (hlv : LeftIs rv ls.length k lv) (hls : ∀ p ∈ ls, p.at_ + p.n ≤ (vhd id ++ flat (A ++ New)).length ∧ 0 < p.n) (hll : ls.length ≤ 1000000)
    (hD : DkS B w0 w d room S (.blk j (jC d id nm sh lv bg (funcJ j) false) 76 :: .row 87 5 rv ls.length (ls.flatMap pcC) :: F)) :
    Fn Tryz.prog 8 #[ptr j] w fun r w' => Comd B w0 d room id nm sh (comS room sh (vhd id ++ flat (A ++ New)) (ls.drop k) New S) j bg F r w' := by
  have hnn := hn.1
  have hstep := step_fn (w := w) (by omega) hsh hne (vhd id ++ flat (A ++ New)) la rv lv k ((ls.length - k : Nat) : Int) (by omega) ls hk hlv hg hls hD
  have hget : getS (stepS room sh (vhd id ++ flat (A ++ New)) (ls.drop k) (ls.length - k) S).1 nm = some ⟨nm, vhd id ++ flat (A ++ New), la⟩ := (stepS_get hne).trans hg
  have hdl : (ls.drop k).length = ls.length - k := List.length_drop
  have hcom : comS room sh (vhd id ++ flat (A ++ New)) (ls.drop k) New S = if (stepS room sh (vhd id ++ flat (A ++ New)) (ls.drop k) (ls.length - k) S).2.2 = 0 then lateS room sh New (stepS room sh (vhd id ++ flat (A ++ New)) (ls.drop k) (ls.length - k) S).1 else ((stepS room sh (vhd id ++ flat (A ++ New)) (ls.drop k) (ls.length - k) S).1, (stepS room sh (vhd id ++ flat (A ++ New)) (ls.drop k) (ls.length - k) S).2.2) := by rw [comS, hdl]
  rw [hcom]
  rw [Int.toNat_natCast] at hstep
  generalize stepS room sh (vhd id ++ flat (A ++ New)) (ls.drop k) (ls.length - k) S = z at *
  obtain ⟨ra, cap, la9, rfl, rfl, hla⟩ := hlv
  obtain ⟨dL, hL, hB, close⟩ := hD.open
  simp only [jC] at hL
  clear hD
  refine Fn.mk Tryz.func8 rfl (by kernel_rfl) Tryz.ntmps8 rfl (by rw [Tryz.results8]) ?_
  repeat (first | (refine RunH ?_; intro w hL hB; try clear w) | (refine Both.mk ?_ ?_ <;> conv => whnf) | fail)
  clear hL hB close
  refine hstep.mono fun r w ⟨lv', hr, hk2, hlv2, hD⟩ => ?_
  subst hr
  obtain ⟨dL, hL, hB, close⟩ := hD.open
  simp only [jC] at hL
  conv => whnf
  by_cases hz : z.2.2 = 0
  case neg =>
    rw [if_neg hz]
    generalize z.2.2 = E at *
    repeat (first | (refine RunH ?_; intro w hL hB; try clear w) | (refine Both.mk ?_ ?_ <;> conv => whnf) | fail)
    refine (remove_fn sh hsh (close (F' := _ :: _ :: F) hL hB)).mono fun r w ⟨_, hD⟩ => ?_
    clear hL hB close
    obtain ⟨dL, hL, hB, close⟩ := hD.open
    conv => whnf
    repeat (first | (refine RunH ?_; intro w hL hB; try clear w) | (refine Both.mk ?_ ?_ <;> conv => whnf) | fail)
    exact ⟨fun _ => ⟨_, rfl, close (F' := _ :: F) (hL.sub (.cons_cons _ (.cons _ (.refl _)))) hB⟩, fun h => absurd h hz⟩
  rw [if_pos hz, hz]
  repeat (first | (refine RunH ?_; intro w hL hB; try clear w) | (refine Both.mk ?_ ?_ <;> conv => whnf) | fail)
  clear hL hB close
  refine (late_fn (by omega) hsh hne (vhd id) A New hok la lv' (funcJ j) false (by rw [vhd_len]; exact hbg) hget hD).mono fun r w ⟨hr, hD⟩ => ?_
  subst hr
  generalize lateS room sh New z.1 = y at *
  obtain ⟨dL, hL, hB, close⟩ := hD.open
  simp only [jC] at hL
  conv => whnf
  by_cases hy : y.2 = 0
  case neg =>
    generalize hY : y.2 = E at *
    repeat (first | (refine RunH ?_; intro w hL hB; try clear w) | (refine Both.mk ?_ ?_ <;> conv => whnf) | fail)
    refine (remove_fn sh hsh (close (F' := _ :: _ :: F) hL hB)).mono fun r w ⟨_, hD⟩ => ?_
    clear hL hB close
    obtain ⟨dL, hL, hB, close⟩ := hD.open
    conv => whnf
    repeat (first | (refine RunH ?_; intro w hL hB; try clear w) | (refine Both.mk ?_ ?_ <;> conv => whnf) | fail)
    exact ⟨fun _ => ⟨_, by rw [hY], close (F' := _ :: F) (hL.sub (.cons_cons _ (.cons _ (.refl _)))) hB⟩, fun h => absurd (hY.symm.trans h) hy⟩
  rw [hy]
  repeat (first | (refine RunK ?_; intro w hL hB; try clear w) | (refine V.tree ttOk (fun x0 => Sep Tryz.prog _ w0 x0 [.blk j [ptr d, .int .i64 (id : Int), .string nm, .string sh, lv', .int .i64 (bg : Int), funcJ j, .bool true] 76]) (.q 0 (.q 1 (.q 2 (.q 3 (.q 4 (.q 5 (.q 6 (.q 7 (.alt 8 .nil .stop))))))))) mixed (by decide +kernel) (hL.drew.one (i := 0) rfl) ?_; replace hL := hL.drew; conv => whnf) | (refine V.tailA ttOk mixed (by decide +kernel) ?_; replace hL := hL.drew; conv => whnf) | (refine Both.mk ?_ ?_ <;> conv => whnf) | fail)
  refine (sync_fn sh hsh (close (F' := _ :: _ :: F) hL hB)).mono fun r w ⟨_, hD⟩ => ?_
  clear hL hB close
  obtain ⟨dL, hL, hB, close⟩ := hD.open
  conv => whnf
  refine And.intro (hL.one (i := 0) rfl) ?_
  conv => whnf
  repeat (first | (refine RunK ?_; intro w hL hB; try clear w) | (refine V.tree ttOk (fun x0 => Sep Tryz.prog _ w0 x0 [.blk j [ptr d, .int .i64 (id : Int), .string nm, .string sh, lv', .int .i64 (bg : Int), funcJ j, .bool true] 76]) (.q 0 (.q 1 (.q 2 (.q 3 (.q 4 (.q 5 (.q 6 (.q 7 (.q 8 (.q 9 (.q 10 (.q 11 (.alt 12 .nil .stop))))))))))))) mixed (by decide +kernel) (hL.drew.one (i := 0) rfl) ?_; replace hL := hL.drew; conv => whnf) | (refine V.tailA ttOk mixed (by decide +kernel) ?_; replace hL := hL.drew; conv => whnf) | (refine Both.mk ?_ ?_ <;> conv => whnf) | fail)
  refine (rename_fn sh nm hsh (by omega) (close (F' := _ :: _ :: F) hL hB)).mono fun r w ⟨_, hD⟩ => ?_
  clear hL hB close
  rw [if_neg (show ¬ renE (syncS y.1 sh) sh nm = 1 from by rw [renE, if_neg (fun h => h ⟨hnn.2.1, hnn.2.2⟩)]; split <;> decide)] at hD
  obtain ⟨dL, hL, hB, close⟩ := hD.open
  conv => whnf
  refine And.intro (hL.one (i := 0) rfl) ?_
  conv => whnf
  repeat (first | (refine RunK ?_; intro w hL hB; try clear w) | (refine V.tree ttOk (fun x0 => Sep Tryz.prog _ w0 x0 [.blk j [ptr d, .int .i64 (id : Int), .string nm, .string sh, lv', .int .i64 (bg : Int), funcJ j, .bool true] 76]) (.q 0 (.q 1 (.q 2 (.q 3 (.q 4 (.q 5 (.q 6 (.q 7 (.alt 8 (.q 9 (.q 10 (.q 11 (.q 12 .nil)))) .stop))))))))) mixed (by decide +kernel) (hL.drew.one (i := 0) rfl) ?_; replace hL := hL.drew; conv => whnf) | (refine V.tailA ttOk mixed (by decide +kernel) ?_; replace hL := hL.drew; conv => whnf) | (refine Both.mk ?_ ?_ <;> conv => whnf) | fail)
  refine (vopen_fn hn (close (F' := _ :: _ :: F) hL hB)).mono fun r w hr => ?_
  clear hL hB close
  have hC : ∀ {r : Value} {w' : World}, ((openE (renS (syncS y.1 sh) sh nm) nm id ≠ 0 → ∃ lv, r = .tuple #[.pointer none, .int .i64 (openE (renS (syncS y.1 sh) sh nm) nm id : Nat)] ∧ DkS B w0 w' d room (renS (syncS y.1 sh) sh nm) (.blk j (jC d id nm sh lv bg (funcJ j) true) 76 :: F)) ∧
    (openE (renS (syncS y.1 sh) sh nm) nm id = 0 → ∃ lv v m ps o, Scan (datS (renS (syncS y.1 sh) sh nm) nm) 8 [] ps o ∧ NdP ps ∧ OkP ps ∧ r = .tuple #[ptr v, .int .i64 0] ∧
      DkS B w0 w' d room (cutAt (renS (syncS y.1 sh) sh nm) nm o) (.blk v (volC d id nm m) 100 :: .mp 38 m (ps.map pcE) :: .blk j (jC d id nm sh lv bg (funcJ j) true) 76 :: F))) → Comd B w0 d room id nm sh y j bg F r w' := fun {r w'} h => ⟨fun h9 => absurd hy h9, fun _ => h⟩
  generalize renS (syncS y.1 sh) sh nm = S4 at *
  by_cases hO : openE S4 nm id = 0
  case neg =>
    obtain ⟨hr, hD⟩ := hr.1 hO
    subst hr
    obtain ⟨dL, hL, hB, close⟩ := hD.open
    conv => whnf
    refine And.intro (hL.one (i := 0) rfl) ?_
    conv => whnf
    repeat (first | (refine RunH ?_; intro w hL hB; try clear w) | (refine Both.mk ?_ ?_ <;> conv => whnf) | fail)
    exact hC ⟨fun _ => ⟨_, rfl, close (F' := _ :: F) (hL.sub (.cons_cons _ (.cons _ (.refl _)))) hB⟩, fun h => absurd h hO⟩
  obtain ⟨v, m, ps, o, hsc, hnd, hok2, hr, hD⟩ := hr.2 hO
  subst hr
  obtain ⟨dL, hL, hB, close⟩ := hD.open
  conv => whnf
  refine And.intro (hL.one (i := 2) rfl) ?_
  conv => whnf
  repeat (first | (refine RunH ?_; intro w hL hB; try clear w) | (refine Both.mk ?_ ?_ <;> conv => whnf) | fail)
  exact hC ⟨fun h => absurd hO h, fun _ => ⟨_, v, m, ps, o, hsc, hnd, hok2, rfl, close (F' := _ :: _ :: _ :: F) (hL.sub (.cons_cons _ (.cons_cons _ (.cons_cons _ (.cons _ (.refl _)))))) hB⟩⟩
theorem clear_fn (hn : NameIn B w0 id nm) (hD : DkS B w0 w d room S F) :
    Fn Tryz.prog 11 #[ptr d, .int .i64 (id : Int)] w fun r w' => r = .bool (getS S (shN nm)).isSome ∧ DkS B w0 w' d room (delS S (shN nm)) F := by
  have hnn := hn.1
  have hsz6 : (shN nm).size ≤ 1000000 := by rw [shN_size]; omega
  have hne : ¬ nm = ByteArray.mk #[] := fun h => by rw [h] at hnn; exact absurd hnn.2.1 (by decide)
  obtain ⟨dL, hL, hB, close⟩ := hD.open
  refine Fn.mk Tryz.func11 rfl (by kernel_rfl) Tryz.ntmps11 rfl (by rw [Tryz.results11]) ?_
  repeat (first | (refine RunH ?_; intro w hL hB; try clear w) | (refine Both.mk ?_ ?_ <;> conv => whnf) | fail)
  refine (hn.2 _ _ hL hB).mono fun r w ⟨hr, hbl⟩ => ?_
  subst hr
  replace hL := hL.call hB (Turns.of_below hbl)
  replace hB := Nat.le_trans hB hbl.size
  conv => whnf
  repeat (first | (refine RunH ?_; intro w hL hB; try clear w) | (refine Both.mk ?_ ?_ <;> conv => whnf) | fail)
  refine Chk.mk (by rw [show (ByteArray.mk #[46, 110, 101, 119]).size = 4 from rfl]; omega) ?_
  conv => whnf
  repeat (first | (refine RunH ?_; intro w hL hB; try clear w) | (refine Both.mk ?_ ?_ <;> conv => whnf) | fail)
  refine (remove_fn (shN nm) hsz6 (close (F' := F) hL hB)).mono fun r w ⟨hr, hD⟩ => ?_
  subst hr
  cases hs : (getS S (shN nm)).isSome with
  | true =>
    rw [if_pos rfl]
    clear hL hB close
    obtain ⟨dL, hL, hB, close⟩ := hD.open
    conv => whnf
    repeat (first | (refine RunH ?_; intro w hL hB; try clear w) | (refine Both.mk ?_ ?_ <;> conv => whnf) | fail)
    exact ⟨rfl, hD⟩
  | false =>
    rw [if_neg (by decide)]
    clear hL hB close
    obtain ⟨dL, hL, hB, close⟩ := hD.open
    conv => whnf
    repeat (first | (refine RunH ?_; intro w hL hB; try clear w) | (refine Both.mk ?_ ?_ <;> conv => whnf) | fail)
    exact ⟨rfl, hD⟩
end
end Go.Proofs.YtladfadcgfdbfaaGreatDoor
namespace Go.Proofs.YtladfadcgfdbfaaGreatDoor
open Go.RowKit
set_option linter.unusedVariables false
set_option linter.unusedSimpArgs false
set_option maxRecDepth 100000
/-- who wins a key, when one more record is read -/
def upM (m : Nat → Option Nd) (r : Nd) : Nat → Option Nd := match m r.key with
  | none => fun k => if r.key = k then some r else m k
  | some o => if r.dead = true ∧ o.dead = false then fun k => if r.key = k then some r else m k else m
def m0 : Nat → Option Nd := fun _ => none
/-- places that say what wins -/
structure Sim (a0 : Nat) (Rs : List Nd) (ps : List Pc) (m : Nat → Option Nd) : Prop where
  no : ∀ k, m k = none → getP ps k = none
  yes : ∀ k r, m k = some r → r.key = k ∧ ∃ A C, Rs = A ++ r :: C ∧ getP ps k = some (placeOf (a0 + lenR A) r)
theorem getP_put (ps : List Pc) (p : Pc) (k : Nat) : getP (putP ps p) k = if p.key = k then some p else getP ps k := putA_get ps p k
theorem Sim.nil (a0 : Nat) : Sim a0 [] [] m0 := ⟨fun _ _ => rfl, fun k r h => by cases h⟩
theorem Sim.step {a0 : Nat} {Rs : List Nd} {ps : List Pc} {m : Nat → Option Nd} (h : Sim a0 Rs ps m) (r : Nd) : Sim a0 (Rs ++ [r]) (layP ps (placeOf (a0 + lenR Rs) r)) (upM m r) := by
  have keep : ∀ k q, m k = some q → q.key = k ∧ ∃ A C, Rs ++ [r] = A ++ q :: C ∧ getP ps k = some (placeOf (a0 + lenR A) q) := fun k q hq => by
    obtain ⟨h1, A, C, h2, h3⟩ := h.yes k q hq
    exact ⟨h1, A, C ++ [r], by rw [h2]; simp, h3⟩
  have hkey : (placeOf (a0 + lenR Rs) r).key = r.key := rfl
  have new : Sim a0 (Rs ++ [r]) (putP ps (placeOf (a0 + lenR Rs) r)) (fun k => if r.key = k then some r else m k) := by
    refine ⟨fun k hk => ?_, fun k q hq => ?_⟩
    · rw [getP_put, hkey]
      split at hk
      · cases hk
      · rename_i hne
        rw [if_neg hne]
        exact h.no k hk
    · rw [getP_put, hkey]
      split at hq
      · rename_i he
        injection hq with hq
        subst hq
        rw [if_pos he]
        exact ⟨he, Rs, [], rfl, rfl⟩
      · rename_i hne
        rw [if_neg hne]
        exact keep k q hq
  cases hm : m r.key with
  | none =>
    have hg := h.no _ hm
    have e1 : upM m r = fun k => if r.key = k then some r else m k := by unfold upM; rw [hm]
    have e2 : layP ps (placeOf (a0 + lenR Rs) r) = putP ps (placeOf (a0 + lenR Rs) r) := by unfold layP; rw [hkey, hg]
    rw [e1, e2]
    exact new
  | some o =>
    obtain ⟨h1, A, C, h2, h3⟩ := h.yes _ _ hm
    have e1 : upM m r = if r.dead = true ∧ o.dead = false then (fun k => if r.key = k then some r else m k) else m := by unfold upM; rw [hm]
    have e2 : layP ps (placeOf (a0 + lenR Rs) r) = if r.dead = true ∧ o.dead = false then putP ps (placeOf (a0 + lenR Rs) r) else ps := by unfold layP; rw [hkey, h3]; rfl
    rw [e1, e2]
    by_cases hd : r.dead = true ∧ o.dead = false
    · rw [if_pos hd, if_pos hd]; exact new
    · rw [if_neg hd, if_neg hd]; exact ⟨h.no, keep⟩
/-! ### what is kept -/
def keepR (ps : List Pc) : Nat → List Nd → List Nd
  | _, [] => []
  | a, r :: rs => if placeOf a r ∈ ps then r :: keepR ps (a + szR r) rs else keepR ps (a + szR r) rs
def keepP (ps : List Pc) (a : Nat) (Rs : List Nd) : List Pc := (plc a Rs).filter fun p => decide (p ∈ ps)
theorem keep_win {ps : List Pc} {D : List UInt8} : ∀ (Rs : List Nd) (H : List UInt8), D = H ++ flat Rs → (keepP ps H.length Rs).flatMap (fun p => Go.Proofs.YtladfadcgfdbfaaGreatDoor.win D p.at_ p.n) = flat (keepR ps H.length Rs)
  | [], H, _ => rfl
  | r :: rs, H, hD => by
    have hH : D = (H ++ encR r) ++ flat rs := by rw [hD]; simp [flat]
    have ih := keep_win (ps := ps) rs (H ++ encR r) hH
    rw [List.length_append, encR_len] at ih
    have hw : Go.Proofs.YtladfadcgfdbfaaGreatDoor.win D (placeOf H.length r).at_ (placeOf H.length r).n = encR r := by
      show Go.Proofs.YtladfadcgfdbfaaGreatDoor.win D H.length (szR r) = encR r
      rw [Go.Proofs.YtladfadcgfdbfaaGreatDoor.win, hH, List.append_assoc, List.drop_left' rfl, List.take_left' (encR_len r)]
    unfold keepP at ih ⊢
    rw [plc, keepR]
    by_cases h : placeOf H.length r ∈ ps
    · rw [List.filter_cons_of_pos (by simpa using h), if_pos h, List.flatMap_cons, hw, ih]
      simp [flat]
    · rw [List.filter_cons_of_neg (by simpa using h), if_neg h, ih]
theorem keep_mem {ps : List Pc} {r : Nd} : ∀ {Rs : List Nd} {a : Nat}, r ∈ keepR ps a Rs ↔ ∃ A C, Rs = A ++ r :: C ∧ placeOf (a + lenR A) r ∈ ps
  | [], a => by simp [keepR]
  | q :: rs, a => by
    have ih := keep_mem (ps := ps) (r := r) (Rs := rs) (a := a + szR q)
    have hin : r ∈ keepR ps a (q :: rs) ↔ (r = q ∧ placeOf a q ∈ ps) ∨ r ∈ keepR ps (a + szR q) rs := by
      rw [keepR]
      by_cases h : placeOf a q ∈ ps
      · rw [if_pos h, List.mem_cons]; simp [h]
      · rw [if_neg h]; simp [h]
    rw [hin, ih]
    constructor
    · rintro (⟨rfl, h⟩ | ⟨A, C, rfl, h⟩)
      · exact ⟨[], rs, rfl, by simpa [lenR] using h⟩
      · refine ⟨q :: A, C, rfl, ?_⟩
        rwa [show a + lenR (q :: A) = a + szR q + lenR A from by simp [lenR]; omega]
    · rintro ⟨A, C, he, h⟩
      cases A with
      | nil =>
        rw [List.nil_append] at he
        injection he with e1 e2
        subst e1
        exact .inl ⟨rfl, by simpa [lenR] using h⟩
      | cons b A =>
        rw [List.cons_append] at he
        injection he with e1 e2
        subst e1
        refine .inr ⟨A, C, e2, ?_⟩
        rwa [show a + lenR (q :: A) = a + szR q + lenR A from by simp [lenR]; omega] at h
theorem keep_ok {ps : List Pc} {Rs : List Nd} {a : Nat} (h : ∀ r ∈ Rs, OkRec r) : ∀ r ∈ keepR ps a Rs, OkRec r := fun r hr => by
  obtain ⟨A, C, rfl, _⟩ := keep_mem.1 hr
  exact h r (by simp)
theorem keep_len (ps : List Pc) : ∀ (Rs : List Nd) (a : Nat), lenR (keepR ps a Rs) ≤ lenR Rs
  | [], _ => Nat.le_refl _
  | r :: rs, a => by
    have ih := keep_len ps rs (a + szR r)
    have e : ∀ (q : Nd) (l : List Nd), lenR (q :: l) = szR q + lenR l := fun q l => by simp [lenR]
    rw [keepR]
    split
    · rw [e, e]; omega
    · rw [e]; omega
theorem plc_at : ∀ (Rs : List Nd) (a : Nat), ∀ p ∈ plc a Rs, a ≤ p.at_
  | [], _, p, h => by cases h
  | r :: rs, a, p, h => by
    rcases List.mem_cons.1 h with rfl | h
    · exact Nat.le_refl _
    · have := plc_at rs _ p h; omega
theorem plc_lt : ∀ (Rs : List Nd) (a : Nat), (plc a Rs).Pairwise fun x y => x.at_ < y.at_
  | [], _ => .nil
  | r :: rs, a => by
    have hs := szR_le r
    refine List.Pairwise.cons (fun p hp => ?_) (plc_lt rs _)
    have := plc_at rs _ p hp
    show a < p.at_
    omega
theorem plc_uniq {Rs : List Nd} {a : Nat} {x y : Pc} (hx : x ∈ plc a Rs) (hy : y ∈ plc a Rs) (h : x.at_ = y.at_) : x = y := by
  have hp := plc_lt Rs a
  generalize plc a Rs = l at *
  induction l with
  | nil => cases hx
  | cons z l ih =>
    obtain ⟨h1, h2⟩ := List.pairwise_cons.1 hp
    rcases List.mem_cons.1 hx with hx1 | hx1 <;> rcases List.mem_cons.1 hy with hy1 | hy1
    · rw [hx1, hy1]
    · have := h1 _ hy1; rw [hx1] at h; omega
    · have := h1 _ hx1; rw [hy1] at h; omega
    · exact ih hx1 hy1 h2
theorem foldP_plc {A : List Nd} {p : Pc} (h : p ∈ foldP 8 [] A) : p ∈ plc 8 A := (foldP_mem A h).resolve_left (by simp)
theorem keep_perm (A : List Nd) : (keepP (foldP 8 [] A) 8 A).Perm (foldP 8 [] A) := by
  have hnd := foldP_nd A 8 [] NdP.nil
  refine (List.perm_ext_iff_of_nodup ?_ ?_).2 fun p => ?_
  · refine List.Pairwise.filter _ ((plc_lt A 8).imp fun h e => ?_)
    rw [e] at h; omega
  · exact (List.pairwise_map.1 hnd).imp fun h e => h (by rw [e])
  · simp only [keepP, List.mem_filter, decide_eq_true_eq]
    exact ⟨fun h => h.2, fun h => ⟨foldP_plc h, h⟩⟩
/-- the places, by where they are -/
theorem ls_eq {ls : List Pc} {A : List Nd} (hp : ls.Perm (foldP 8 [] A)) (hs : ls.Pairwise fun x y => ¬ ltP y x) : ls = keepP (foldP 8 [] A) 8 A := by
  refine List.Perm.eq_of_pairwise (le := fun x y => ¬ ltP y x) (fun x y hx hy h1 h2 => ?_) hs ?_ (hp.trans (keep_perm A).symm)
  · have hx' := foldP_plc (hp.mem_iff.1 hx)
    have hy' := foldP_plc ((keep_perm A).mem_iff.1 hy)
    refine plc_uniq hx' hy' ?_
    unfold ltP at h1 h2
    omega
  · refine ((plc_lt A 8).filter _).imp fun h => ?_
    unfold ltP
    omega
/-! ### a volume's file, and other ones -/
def volS (nm : ByteArray) (D : List UInt8) (T : List Fl) : List Fl := ⟨nm, D, D.length⟩ :: T
section
variable {room id : Nat} {nm sh : ByteArray} {D X xs : List UInt8} {T : List Fl} {ps : List Pc} {key cook la : Nat} {dead : Bool}
theorem vol_get : getS (volS nm D T) nm = some ⟨nm, D, D.length⟩ := by simp [volS, getS]
theorem vol_get_ne (h : nm ≠ sh) : getS (volS nm D T) sh = getS T sh := by simp [volS, getS, h]
theorem vol_sz : szS (volS nm D T) nm = D.length := by rw [szS, vol_get]
theorem vol_dat : datS (volS nm D T) nm = D := by rw [datS, vol_get]
theorem vol_tot : totS (volS nm D T) = D.length + totS T := by simp [volS, totS]
theorem vol_one : volS nm D [] = oneS nm D := rfl
theorem vol_app (hnm : 1 ≤ nm.size ∧ nm.size ≤ 64) (h : appE room (volS nm D T) nm xs.length = 0) : syncS (appS room (volS nm D T) nm xs) nm = volS nm (D ++ xs) T := by
  rw [appS, if_pos h, appF, vol_get, syncS]
  simp [getS, putS, volS]
theorem vol_appE (hnm : 1 ≤ nm.size ∧ nm.size ≤ 64) (n : Nat) : appE room (volS nm D T) nm n = if room < D.length + totS T + n then 6 else 0 := by
  rw [appE, if_neg (fun h => h hnm), vol_get, vol_tot]
  simp
theorem vol_put_ok (hnm : 1 ≤ nm.size ∧ nm.size ≤ 64) (hE : vputE room (volS nm D T) nm ps key dead xs.length = 0) :
    encNE dead xs.length = 0 ∧ D.length + totS T + szN xs.length ≤ room ∧ vputS room (volS nm D T) nm ps key cook dead xs = volS nm (D ++ encN key cook dead xs) T ∧ vputP room (volS nm D T) nm ps key cook dead xs = layP ps ⟨key, D.length, szN xs.length, cook, dead⟩ := by
  have hl := encN_len key cook dead xs
  have h := hE
  rw [vputE] at h
  split at h
  · omega
  · rename_i h1
    split at h
    · omega
    · split at h
      · omega
      · have h2 := h
        rw [vol_appE hnm] at h2
        refine ⟨Decidable.not_not.1 h1, ?_, ?_, ?_⟩
        · split at h2
          · omega
          · omega
        · rw [vputS, if_pos hE]; exact vol_app hnm (by rw [hl]; exact h)
        · rw [vputP, if_pos hE, vol_sz]
theorem vol_put_no (hE : vputE room (volS nm D T) nm ps key dead xs.length ≠ 0) : vputS room (volS nm D T) nm ps key cook dead xs = volS nm D T ∧ vputP room (volS nm D T) nm ps key cook dead xs = ps := by
  rw [vputS, vputP, if_neg hE, if_neg hE]; exact ⟨rfl, rfl⟩
/-- with its shadow -/
def shS (sh : ByteArray) (X : List UInt8) (la : Nat) : List Fl := [⟨sh, X, la⟩]
theorem sh_tot : totS (shS sh X la) = X.length := by simp [shS, totS]
theorem sh_get : getS (shS sh X la) sh = some ⟨sh, X, la⟩ := by simp [shS, getS]
variable (hne : nm ≠ sh)
include hne
theorem two_get : getS (volS nm D (shS sh X la)) sh = some ⟨sh, X, la⟩ := by rw [vol_get_ne hne, sh_get]
theorem two_appE (hsh : 1 ≤ sh.size ∧ sh.size ≤ 64) (n : Nat) : appE room (volS nm D (shS sh X la)) sh n = if room < D.length + X.length + n then 6 else 0 := by
  rw [appE, if_neg (fun h => h hsh), two_get hne, vol_tot, sh_tot]
  simp
theorem two_app (hsh : 1 ≤ sh.size ∧ sh.size ≤ 64) (h : appE room (volS nm D (shS sh X la)) sh xs.length = 0) : appS room (volS nm D (shS sh X la)) sh xs = volS nm D (shS sh (X ++ xs) la) := by
  rw [appS, if_pos h, appF, two_get hne]
  simp [putS, volS, shS, hne]
theorem one_appE (hsh : 1 ≤ sh.size ∧ sh.size ≤ 64) (n : Nat) : appE room (volS nm D []) sh n = if room < D.length + n then 6 else 0 := by
  rw [appE, if_neg (fun h => h hsh), vol_get_ne hne, vol_tot]
  simp [getS, volS, totS]
theorem one_app_sh (hsh : 1 ≤ sh.size ∧ sh.size ≤ 64) (h : appE room (volS nm D []) sh xs.length = 0) : appS room (volS nm D []) sh xs = volS nm D (shS sh xs 0) := by
  rw [appS, if_pos h, appF, vol_get_ne hne]
  simp [putS, volS, shS, hne, getS]
theorem two_del : delS (volS nm D (shS sh X la)) sh = volS nm D [] := by simp [delS, volS, shS, hne]
theorem one_del_sh : delS (volS nm D []) sh = volS nm D [] := by simp [delS, volS, hne]
theorem two_sync : syncS (volS nm D (shS sh X la)) sh = volS nm D (shS sh X X.length) := by
  rw [syncS, two_get hne]
  simp [putS, volS, shS, hne]
theorem two_ren : renS (volS nm D (shS sh X la)) sh nm = [⟨nm, X, la⟩] := by
  rw [renS, two_get hne]
  dsimp only
  rw [if_neg (Ne.symm hne), two_del hne]
  simp [putS, volS]
theorem two_com : renS (syncS (volS nm D (shS sh X la)) sh) sh nm = volS nm X [] := by rw [two_sync hne, two_ren hne]; rfl
/-- how many of the places go into the room -/
theorem stepS_two (hsh : 1 ≤ sh.size ∧ sh.size ≤ 64) {E : List UInt8} : ∀ {ps : List Pc} {n : Nat} {X : List UInt8}, (∀ p ∈ ps, p.at_ + p.n ≤ E.length) → D.length + X.length ≤ room → ∃ k e, k ≤ ps.length ∧ k ≤ n ∧ (e = 0 → k = min n ps.length) ∧ (e ≠ 0 → e = 6) ∧
    stepS room sh E ps n (volS nm D (shS sh X la)) = (volS nm D (shS sh (X ++ (ps.take k).flatMap fun p => Go.Proofs.YtladfadcgfdbfaaGreatDoor.win E p.at_ p.n) la), k, e) ∧ (e = 0 ↔ D.length + X.length + sumN (ps.take n) ≤ room)
  | [], n, X, _, h0 => ⟨0, 0, Nat.le_refl _, Nat.zero_le _, by simp, fun h => absurd rfl h, by rw [stepS_nil]; simp, by simpa [sumN] using h0⟩
  | _ :: _, 0, X, _, h0 => ⟨0, 0, Nat.zero_le _, Nat.le_refl _, by simp, fun h => absurd rfl h, by rw [stepS_zero]; simp, by simpa [sumN] using h0⟩
  | p :: ps, n + 1, X, hps, h0 => by
    have hw : (Go.Proofs.YtladfadcgfdbfaaGreatDoor.win E p.at_ p.n).length = p.n := win_len (hps p (by simp))
    have hs : sumN ((p :: ps).take (n + 1)) = p.n + sumN (ps.take n) := by simp [sumN]
    rw [stepS, hs]
    by_cases h : room < D.length + X.length + p.n
    · have h6 : appE room (volS nm D (shS sh X la)) sh p.n = 6 := by rw [two_appE hne hsh, if_pos h]
      rw [h6, if_neg (by decide)]
      exact ⟨0, 6, Nat.zero_le _, Nat.zero_le _, (fun h => by cases h), fun _ => rfl, by simp, ⟨(fun h => by cases h), fun h => by omega⟩⟩
    · have h00 : appE room (volS nm D (shS sh X la)) sh p.n = 0 := by rw [two_appE hne hsh, if_neg h]
      rw [h00, if_pos rfl, two_app hne hsh (by rw [hw]; exact h00)]
      obtain ⟨k, e, h1, h2, h3, h4, h5, h6⟩ := stepS_two hsh (ps := ps) (n := n) (X := X ++ Go.Proofs.YtladfadcgfdbfaaGreatDoor.win E p.at_ p.n) (fun q hq => hps q (by simp [hq])) (by rw [List.length_append, hw]; omega)
      rw [h5]
      rw [List.length_append, hw] at h6
      refine ⟨k + 1, e, by simp; omega, by omega, fun h7 => by have := h3 h7; simp; omega, h4, by simp, h6.trans ⟨fun h => by omega, fun h => by omega⟩⟩
theorem lateS_two (hsh : 1 ≤ sh.size ∧ sh.size ≤ 64) : ∀ {New : List Nd} {X : List UInt8}, D.length + X.length ≤ room → ∃ k e, (e = 0 → k = New.length) ∧ (e ≠ 0 → e = 6) ∧ lateS room sh New (volS nm D (shS sh X la)) = (volS nm D (shS sh (X ++ flat (New.take k)) la), e) ∧ (e = 0 ↔ D.length + X.length + lenR New ≤ room)
  | [], X, h => ⟨0, 0, fun _ => rfl, fun h => absurd rfl h, by simp [lateS, flat], by simpa [lenR] using h⟩
  | r :: New, X, h => by
    have hl : lenR (r :: New) = szR r + lenR New := by simp [lenR]
    rw [lateS, two_appE hne hsh, hl]
    by_cases hr : room < D.length + X.length + szR r
    · rw [if_pos hr, if_neg (by decide)]
      exact ⟨0, 6, (fun h => by cases h), fun _ => rfl, by simp [flat], ⟨(fun h => by cases h), fun h => by omega⟩⟩
    · rw [if_neg hr, if_pos rfl, two_app hne hsh (by rw [encR_len, two_appE hne hsh, if_neg hr])]
      obtain ⟨k, e, h1, h2, h3, h4⟩ := lateS_two hsh (New := New) (X := X ++ encR r) (by rw [List.length_append, encR_len]; omega)
      rw [h3]
      rw [List.length_append, encR_len] at h4
      refine ⟨k + 1, e, fun h => by rw [h1 h]; rfl, h2, by simp [flat], h4.trans ⟨fun h => by omega, fun h => by omega⟩⟩
end
end Go.Proofs.YtladfadcgfdbfaaGreatDoor
