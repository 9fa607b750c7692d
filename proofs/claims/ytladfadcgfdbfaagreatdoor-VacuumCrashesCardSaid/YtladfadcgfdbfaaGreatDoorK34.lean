/- VacuumCrashes. Nothing is claimed here. -/
import Derived.Test.YtladfadcgfdbfaaGreatDoorK32
import Derived.Test.YtladfadcgfdbfaaGreatDoorK08
import Derived.Test.YtladfadcgfdbfaaGreatDoorK22
namespace Go.Proofs.YtladfadcgfdbfaaGreatDoor
open Go.RowKit Go.Lib
set_option linter.unusedVariables false
set_option linter.unusedSimpArgs false
set_option maxRecDepth 100000
theorem crash_vol (nm sh : ByteArray) (D X : List UInt8) (la : Nat) (draw : Int) : ∃ X' la', crashS (volS nm D (shS sh X la)) draw = volS nm D (shS sh X' la') := by
  have h1 : ∀ i, crash1 draw i ⟨nm, D, D.length⟩ = ⟨nm, D, D.length⟩ := fun i => by
    have : stays draw i ⟨nm, D, D.length⟩ = D.length := by
      rw [stays]; dsimp only; rw [Nat.sub_self, Nat.zero_add, Nat.mod_one, Nat.add_zero]
    rw [crash1, this]; dsimp only; rw [List.take_length]
  have h2 : crashS (volS nm D (shS sh X la)) draw = [crash1 draw (rank (volS nm D (shS sh X la)) ⟨nm, D, D.length⟩) ⟨nm, D, D.length⟩, crash1 draw (rank (volS nm D (shS sh X la)) ⟨sh, X, la⟩) ⟨sh, X, la⟩] := rfl
  rw [h2, h1]
  exact ⟨_, _, rfl⟩
set_option maxHeartbeats 16000000 in
theorem vcrashes_fn (v : Value) (ns : List InN) (steps draw : Int) (w0 : World) (hs : SlN w0 4 v ns.length (ns.flatMap inC)) (hns : ∀ n ∈ ns, OkN w0 n) (hst : (Lit.int .i64 steps).wf = true) (hdw : (Lit.int .i64 draw).wf = true) :
    Fn Tryz.prog 5 #[v, .int .i64 steps, .int .i64 draw] w0 fun r w' => r = .bool true ∧ Below w0.heap.size w0 w' := by
  have hdwr := i64_wf hdw
  have hstr := i64_wf hst
  have hL := Sep.start Tryz.prog w0
  have hB := Nat.le_refl w0.heap.size
  have hle := hs.le
  have hn := nameIs (B := w0.heap.size) (w0 := w0) 5 (by decide)
  have hsz : (vnm 5).size ≤ 60 := by decide
  have hnm := hn.1.2
  have h8 : (vhd 5).length = 8 := vhd_len 5
  obtain ⟨a, c, rfl⟩ := hs.shape
  have elem : ∀ {L : List Res} {w' : World}, Sep Tryz.prog w0.heap.size w0 w' L → ∀ k (hk : k < ns.length), ∃ b o, a = some ⟨b, o, none⟩ ∧ Row w' b o (ns.flatMap inC) := fun h k hk => (hs.below h.below).addr (by omega)
  refine Fn.mk Tryz.func5 rfl (by kernel_rfl) Tryz.ntmps5 rfl (by rw [Tryz.results5]) ?_
  repeat (first | (refine RunH ?_; intro w hL hB; try clear w) | (refine Both.mk ?_ ?_ <;> conv => whnf) | fail)
  refine V.loop (α := Nat) (fun k => [(0, .slice a ns.length c), (1, .int .i64 steps), (2, .int .i64 draw), (7, .int .i64 (sumI ns k : Int)), (8, .int .i64 (k : Int))])
    (fun k w' => k ≤ ns.length ∧ sumI ns k ≤ 140737488400000 ∧ Sep Tryz.prog w0.heap.size w0 w' []) (fun k => ns.length - k) 0 ⟨rfl, rfl, rfl, rfl, rfl, trivial⟩ ⟨by omega, by simp [sumI], hL⟩ ?_
  clear hL hB
  rintro k w ⟨hk, hsum, hL⟩
  have hB := hL.below.size
  dsimp only at *
  by_cases hgo : k < ns.length ∧ sumI ns k ≤ 12000
  · obtain ⟨hlt, hsm⟩ := hgo
    have hm := hns _ (List.getElem_mem hlt)
    have hml := hm.len
    obtain ⟨bb, o, rfl, hrow⟩ := elem hL k hlt
    have hsu := sumI_succ hlt
    have hx : ns[k]? = some ns[k] := List.getElem?_eq_getElem hlt
    generalize hq : ns[k] = q at *
    obtain ⟨qk, qc, qd, qv, ql⟩ := q
    dsimp only at hml hsu
    have hsl := hm.sl
    dsimp only at hsl
    obtain ⟨pa, pc, rfl⟩ := hsl.shape
    rw [bv_length] at *
    repeat (first | (refine RunH ?_; intro w hL hB; try clear w) | (refine Both.mk ?_ ?_ <;> conv => whnf) | fail)
    intro o1 ho1
    conv => whnf
    repeat (first | (refine RunH ?_; intro w hL hB; try clear w) | (refine Both.mk ?_ ?_ <;> conv => whnf) | fail)
    refine Ld.rowF ttOk (f := inC) inC_len 3 hrow (ss := ns) (k := k) tl40 rfl hx rfl (by omega) ?_
    conv => whnf
    repeat (first | (refine RunH ?_; intro w hL hB; try clear w) | (refine Both.mk ?_ ?_ <;> conv => whnf) | fail)
    exact ⟨k + 1, ⟨rfl, rfl, rfl, vint (by rw [hsu]; push_cast; omega), vint (by push_cast; omega), trivial⟩, ⟨by omega, by omega, hL⟩, (by first | omega | (dsimp only; omega))⟩
  by_cases hbig : 12000 < sumI ns k
  · by_cases hlt : k < ns.length
    · have h20 : ¬ sumI ns k ≤ 12000 := fun h => hgo ⟨hlt, h⟩
      repeat (first | (refine RunH ?_; intro w hL hB; try clear w) | (refine Both.mk ?_ ?_ <;> conv => whnf) | fail)
      exact ⟨rfl, hL.below⟩
    · repeat (first | (refine RunH ?_; intro w hL hB; try clear w) | (refine Both.mk ?_ ?_ <;> conv => whnf) | fail)
      exact ⟨rfl, hL.below⟩
  have hke : k = ns.length := by
    rcases Nat.lt_or_ge k ns.length with h | h
    · exact absurd ⟨h, by omega⟩ hgo
    · omega
  subst hke
  have hN := sumI_le ns ns.length 0 (by omega) (Nat.le_refl _)
  simp only [sumI, List.take_zero, List.map_nil, List.sum_nil] at hN
  replace hN : 40 * ns.length ≤ sumI ns ns.length := by simpa [sumI] using hN
  repeat (first | (refine RunH ?_; intro w hL hB; try clear w) | (refine Both.mk ?_ ?_ <;> conv => whnf) | fail)
  refine (new_fn 1048576 hL hB).mono fun r w hr => ?_
  obtain ⟨d, rfl, hD⟩ := hr.1 (by decide)
  clear hr hL hB
  obtain ⟨dL, hL, hB, close⟩ := hD.open
  clear hD
  conv => whnf
  repeat (first | (refine RunH ?_; intro w hL hB; try clear w) | (refine Both.mk ?_ ?_ <;> conv => whnf) | fail)
  refine (create_fn hn (close (F' := []) hL hB)).mono fun r w ⟨_, _, hr⟩ => ?_
  obtain ⟨vv, m, rfl, hD⟩ := hr rfl (one_create hnm (by decide) (id := 5)).1
  rw [(one_create hnm (by decide)).2] at hD
  clear hr hL hB close
  obtain ⟨dL, hL, hB, close⟩ := hD.open
  clear hD
  conv => whnf
  repeat (first | (refine RunH ?_; intro w hL hB; try clear w) | (refine Both.mk ?_ ?_ <;> conv => whnf) | fail)
  replace hD := close (F' := [_, _]) hL hB
  clear hL hB close
  refine V.loop (α := Nat × List Nd) (fun z => [(0, .slice a ns.length c), (1, .int .i64 steps), (2, .int .i64 draw), (9, ptr d), (11, ptr vv), (13, .int .i64 (z.1 : Int))])
    (fun z w' => z.1 ≤ ns.length ∧ (∀ r ∈ z.2, OkRec r) ∧ lenR z.2 ≤ sumI ns z.1 ∧ DkS w0.heap.size w0 w' d (1048576 : Int).toNat (volS (vnm 5) (vhd 5 ++ flat z.2) []) [.blk vv (volC d 5 (vnm 5) m) 100, .mp 38 m ((foldP 8 [] z.2).map pcE)]) (fun z => ns.length - z.1) (0, []) ⟨rfl, rfl, rfl, rfl, rfl, rfl, trivial⟩ ⟨by dsimp only; omega, by simp, by simp [lenR], by simpa [flat, foldP, vol_one] using hD⟩ ?_
  clear hD hk hgo
  rintro ⟨k, Rs⟩ w ⟨hk, hok, hlR, hD⟩
  dsimp only at hk hok hlR hD ⊢
  by_cases hlt : k < ns.length
  · obtain ⟨dL, hL, hB, close⟩ := hD.open
    clear hD
    have hm := hns _ (List.getElem_mem hlt)
    obtain ⟨bb, o, rfl, hrow⟩ := elem hL k hlt
    have hsu := sumI_succ hlt
    have hsn := sumI_le ns ns.length (k + 1) (by omega) (Nat.le_refl _)
    have hx : ns[k]? = some ns[k] := List.getElem?_eq_getElem hlt
    generalize hq : ns[k] = q at *
    obtain ⟨qk, qc, qd, qv, ql⟩ := q
    obtain ⟨mk, mc, msl, mln⟩ := hm
    dsimp only at hsu mk mc msl mln
    repeat (first | (refine RunH ?_; intro w hL hB; try clear w) | (refine Both.mk ?_ ?_ <;> conv => whnf) | fail)
    intro o1 ho1
    conv => whnf
    refine Ld.rowN ttOk (f := inC) inC_len hrow (ss := ns) (k := k) tl42 rfl rfl hx (by omega) ?_
    conv => whnf
    repeat (first | (refine RunH ?_; intro w hL hB; try clear w) | (refine Both.mk ?_ ?_ <;> conv => whnf) | fail)
    refine (vputV_fn hn qk qc qd _ ql mk mc hok (fun w' h => h.sl msl rfl) (close (F' := [_, _]) hL hB)).mono fun r w ⟨e, hr, Rs', hok', hRs', hD⟩ => ?_
    clear hL hB close
    subst hr
    obtain ⟨dL, hL, hB, close⟩ := hD.open
    conv => whnf
    repeat (first | (refine RunH ?_; intro w hL hB; try clear w) | (refine Both.mk ?_ ?_ <;> conv => whnf) | fail)
    refine ⟨(k + 1, Rs'), ⟨rfl, rfl, rfl, rfl, rfl, vint (by push_cast; omega), trivial⟩, ⟨by dsimp only; omega, hok', ?_, hD⟩, (by first | omega | (dsimp only; omega))⟩
    dsimp only
    rcases hRs' with rfl | rfl
    · omega
    · have hszr := szR_le ⟨qk, qc, qd, ql⟩
      rw [lenR_app]
      simp only [lenR, List.map_cons, List.map_nil, List.sum_cons, List.sum_nil] at *
      omega
  obtain rfl : k = ns.length := by omega
  have hRl := lenR_len Rs
  have hfl : (vhd 5 ++ flat Rs).length = 8 + lenR Rs := by rw [List.length_append, h8, flatR_len]
  obtain ⟨dL, hL, hB, close⟩ := hD.open
  clear hD
  repeat (first | (refine RunH ?_; intro w hL hB; try clear w) | (refine Both.mk ?_ ?_ <;> conv => whnf) | fail)
  refine (hn.2 _ _ hL hB).mono fun r w ⟨hr, hw⟩ => ?_
  subst hr
  replace hL := hL.call hB (Turns.of_below hw)
  replace hB := Nat.le_trans hB hw.size
  conv => whnf
  repeat (first | (refine RunH ?_; intro w hL hB; try clear w) | (refine Both.mk ?_ ?_ <;> conv => whnf) | fail)
  refine (read_fn (vnm 5) (by omega) (close (F' := [_, _]) hL hB)).mono fun r w hD => ?_
  clear hL hB close
  rw [vol_get] at hD
  obtain ⟨u, hr, hD⟩ := hD
  subst hr
  dsimp only at hD
  obtain ⟨dL, hL, hB, close⟩ := hD.open
  clear hD
  obtain ⟨ua, uc, rfl⟩ := (show SlN w 1 u _ _ from hL.rowN (i := 0) rfl).shape
  conv => whnf
  repeat (first | (refine RunH ?_; intro w hL hB; try clear w) | (refine Both.mk ?_ ?_ <;> conv => whnf) | fail)
  refine (begin_one hn hsz Rs hok (by omega) (by show _ ≤ 1048576; omega) (close (F' := [_, _, _]) hL hB)).mono fun r w ⟨j, rv, hr, hlv, hD⟩ => ?_
  subst hr
  clear hL hB close
  obtain ⟨dL, hL, hB, close⟩ := hD.open
  rw [jobR] at hL
  have hll := lsOf_len Rs
  conv => whnf
  repeat (first | (refine RunH ?_; intro w hL hB; try clear w) | (refine Both.mk ?_ ?_ <;> conv => whnf) | fail)
  clear hL hB close
  have hD1 := hD
  rw [show volS (vnm 5) (vhd 5 ++ flat Rs) (shS (shN (vnm 5)) (vhd 5 ++ gone 5 Rs 0) 0) = volS (vnm 5) (vhd 5 ++ flat (Rs ++ [])) (shS (shN (vnm 5)) (vhd 5 ++ gone 5 Rs 0) 0) from by rw [List.append_nil]] at hD1
  refine (step_one (New := []) hn hsz Rs 0 (Nat.zero_le _) steps hstr.2 (by omega) hlv hD1).mono fun r w ⟨q, e, lv', hq, _, _, _, hr, hlv', hD⟩ => ?_
  subst hr
  obtain ⟨dL, hL, hB, close⟩ := hD.open
  clear hD
  rw [jobR] at hL
  conv => whnf
  repeat (first | (refine RunH ?_; intro w hL hB; try clear w) | (refine Both.mk ?_ ?_ <;> conv => whnf) | fail)
  refine (crash_fn draw hdwr.2 (close (F' := _ :: _ :: [_, _, _]) hL hB)).mono fun r w hD => ?_
  clear hL hB close
  rw [List.append_nil] at hD
  obtain ⟨X', la', hcr⟩ := crash_vol (vnm 5) (shN (vnm 5)) (vhd 5 ++ flat Rs) (vhd 5 ++ gone 5 Rs (0 + q)) 0 draw
  rw [hcr] at hD
  obtain ⟨dL, hL, hB, close⟩ := hD.open
  clear hD
  conv => whnf
  repeat (first | (refine RunH ?_; intro w hL hB; try clear w) | (refine Both.mk ?_ ?_ <;> conv => whnf) | fail)
  refine (hn.2 _ _ hL hB).mono fun r w ⟨hr, hw⟩ => ?_
  subst hr
  replace hL := hL.call hB (Turns.of_below hw)
  replace hB := Nat.le_trans hB hw.size
  conv => whnf
  repeat (first | (refine RunH ?_; intro w hL hB; try clear w) | (refine Both.mk ?_ ?_ <;> conv => whnf) | fail)
  refine (read_fn (vnm 5) (by omega) (close (F' := _ :: _ :: [_, _, _]) hL hB)).mono fun r w hD => ?_
  clear hL hB close
  rw [vol_get] at hD
  obtain ⟨u2, hr, hD⟩ := hD
  subst hr
  dsimp only at hD
  obtain ⟨dL, hL, hB, close⟩ := hD.open
  clear hD
  obtain ⟨ua2, uc2, rfl⟩ := (show SlN w 1 u2 _ _ from hL.rowN (i := 0) rfl).shape
  conv => whnf
  repeat (first | (refine RunH ?_; intro w hL hB; try clear w) | (refine Both.mk ?_ ?_ <;> conv => whnf) | fail)
  refine (same_fn _ _ (vhd 5 ++ flat Rs) (vhd 5 ++ flat Rs) _ (hL.row (i := 3) rfl) (hL.row (i := 0) rfl)).mono fun r w ⟨hr, hw⟩ => ?_
  subst hr
  replace hL := hL.call hB (Turns.of_below hw)
  replace hB := Nat.le_trans hB hw.size
  rw [decide_eq_true rfl]
  conv => whnf
  repeat (first | (refine RunH ?_; intro w hL hB; try clear w) | (refine Both.mk ?_ ?_ <;> conv => whnf) | fail)
  refine (clear_fn hn (close (F' := [_, _, _, _, _, _]) hL hB)).mono fun r w ⟨hr, hD⟩ => ?_
  rw [two_get (shN_ne _)] at hr
  rw [two_del (shN_ne _)] at hD
  subst hr
  clear hL hB close
  obtain ⟨dL, hL, hB, close⟩ := hD.open
  clear hD
  conv => whnf
  repeat (first | (refine RunH ?_; intro w hL hB; try clear w) | (refine Both.mk ?_ ?_ <;> conv => whnf) | fail)
  refine (clear_fn hn (close (F' := [_, _, _, _, _, _]) hL hB)).mono fun r w ⟨hr, hD⟩ => ?_
  rw [vol_get_ne (shN_ne _)] at hr
  rw [one_del_sh (shN_ne _)] at hD
  subst hr
  clear hL hB close
  obtain ⟨dL, hL, hB, close⟩ := hD.open
  clear hD
  conv => whnf
  repeat (first | (refine RunH ?_; intro w hL hB; try clear w) | (refine Both.mk ?_ ?_ <;> conv => whnf) | fail)
  refine (list_fn (close (F' := [_, _, _, _, _, _]) hL hB)).mono fun r w hD => ?_
  clear hL hB close
  obtain ⟨dL, hL, hB, close⟩ := hD.open
  clear hD
  obtain ⟨la9, lc9, rfl⟩ := (show SlN w 1 r 1 _ from hL.rowN (i := 0) rfl).shape
  conv => whnf
  repeat (first | (refine RunH ?_; intro w hL hB; try clear w) | (refine Both.mk ?_ ?_ <;> conv => whnf) | (refine (knownJ_fn _).mono fun r w hr => ?_; obtain ⟨hr, hw⟩ := hr; subst hr; replace hL := hL.call hB (Turns.of_below hw); replace hB := Nat.le_trans hB hw.size; conv => whnf) | fail)
  exact ⟨rfl, hL.below⟩
end Go.Proofs.YtladfadcgfdbfaaGreatDoor
