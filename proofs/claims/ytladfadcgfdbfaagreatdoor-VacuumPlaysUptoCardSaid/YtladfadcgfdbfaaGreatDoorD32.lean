/- vacuum: a put, Begin where nothing is, Commit of a job among its files. vacuum: a job among its files, call by call; known; VacuumOfNothing. Nothing is claimed here. -/
import Derived.Test.YtladfadcgfdbfaaGreatDoorD30
import Derived.Test.YtladfadcgfdbfaaGreatDoorD31
namespace Go.Proofs.YtladfadcgfdbfaaGreatDoor
open Go.RowKit Go.Lib
set_option linter.unusedVariables false
set_option linter.unusedSimpArgs false
set_option maxRecDepth 100000
section
variable {B d v m room id : Nat} {nm sh : ByteArray} {S T : List Fl} {F : List Res} {w0 w : World}
/-- the places of a job, in their order -/
def lsOf (A : List Nd) : List Pc := keepP (foldP 8 [] A) 8 A
theorem lsOf_len (A : List Nd) : (lsOf A).length ≤ A.length := by
  rw [lsOf, (keep_perm A).length_eq]
  simpa using foldP_len A 8 []
theorem lsOf_sum (A : List Nd) : sumN (lsOf A) = lenR (keepR (foldP 8 [] A) 8 A) := by
  have h := keep_win (ps := foldP 8 [] A) (D := vhd 5 ++ flat A) A (vhd 5) rfl
  rw [vhd_len] at h
  have h2 := congrArg List.length h
  rw [flatR_len] at h2
  rw [← h2, lsOf, List.length_flatMap, sumN]
  congr 1
  refine List.map_congr_left fun p hp => ?_
  have hp' : p ∈ plc 8 A := (List.mem_filter.1 hp).1
  obtain ⟨A1, r, C, rfl, rfl⟩ := plc_mem hp'
  rw [win_len]
  show 8 + lenR A1 + szR r ≤ _
  rw [List.length_append, flatR_len, vhd_len, lenR_app]
  simp only [lenR, List.map_cons, List.sum_cons]
  omega
theorem lsOf_in {A : List Nd} {p : Pc} (hp : p ∈ lsOf A) : p.at_ + p.n ≤ 8 + lenR A ∧ 0 < p.n := by
  have hp' : p ∈ plc 8 A := (List.mem_filter.1 hp).1
  obtain ⟨A1, r, C, rfl, rfl⟩ := plc_mem hp'
  have := szR_le r
  show 8 + lenR A1 + szR r ≤ _ ∧ 0 < szR r
  rw [lenR_app]
  simp only [lenR, List.map_cons, List.sum_cons]
  omega
/-- what the first k of a job's places are -/
def gone (id : Nat) (A : List Nd) (k : Nat) : List UInt8 := ((lsOf A).take k).flatMap fun p => Go.Proofs.YtladfadcgfdbfaaGreatDoor.win (vhd id ++ flat A) p.at_ p.n
theorem gone_all (id : Nat) {A : List Nd} {k : Nat} (h : (lsOf A).length ≤ k) : gone id A k = flat (keepR (foldP 8 [] A) 8 A) := by
  have h2 := keep_win (ps := foldP 8 [] A) (D := vhd id ++ flat A) A (vhd id) rfl
  rw [vhd_len] at h2
  rw [gone, List.take_of_length_le h, ← h2]; rfl
theorem gone_more (id : Nat) (A New : List Nd) (k n : Nat) : gone id A k ++ (((lsOf A).drop k).take n).flatMap (fun p => Go.Proofs.YtladfadcgfdbfaaGreatDoor.win (vhd id ++ flat (A ++ New)) p.at_ p.n) = gone id A (k + n) := by
  rw [gone, gone, List.take_add, List.flatMap_append]
  congr 1
  have hw : ∀ p ∈ ((lsOf A).drop k).take n, Go.Proofs.YtladfadcgfdbfaaGreatDoor.win (vhd id ++ flat (A ++ New)) p.at_ p.n = Go.Proofs.YtladfadcgfdbfaaGreatDoor.win (vhd id ++ flat A) p.at_ p.n := fun p hp => by
    have := (lsOf_in (List.mem_of_mem_drop (List.mem_of_mem_take hp))).1
    have hl : (vhd id ++ flat A).length = 8 + lenR A := by rw [List.length_append, flatR_len, vhd_len]
    rw [flat_app, ← List.append_assoc, Go.Proofs.YtladfadcgfdbfaaGreatDoor.win, Go.Proofs.YtladfadcgfdbfaaGreatDoor.win, List.drop_append_of_le_length (by omega), List.take_append_of_le_length (by rw [List.length_drop]; omega)]
  generalize ((lsOf A).drop k).take n = l at *
  induction l with
  | nil => rfl
  | cons p l ih => rw [List.flatMap_cons, List.flatMap_cons, hw p (by simp), ih fun q hq => hw q (by simp [hq])]
theorem sumN_app (a b : List Pc) : sumN (a ++ b) = sumN a + sumN b := by simp [sumN]
theorem gone_len (id : Nat) (A : List Nd) (k : Nat) : (gone id A k).length = sumN ((lsOf A).take k) := by
  rw [gone, List.length_flatMap, sumN]
  congr 1
  refine List.map_congr_left fun p hp => ?_
  have := (lsOf_in (List.mem_of_mem_take hp)).1
  rw [win_len]
  rw [List.length_append, flatR_len, vhd_len]; exact this
/-- the steps of a job -/
theorem step_two (hne : nm ≠ sh) (hsh : 1 ≤ sh.size ∧ sh.size ≤ 64) (A New : List Nd) (k n : Nat) (la : Nat) (h0 : 8 + lenR (A ++ New) + 8 + sumN ((lsOf A).take k) ≤ room) :
    ∃ j e, k + j ≤ max k (lsOf A).length ∧ j ≤ n ∧ (e = 0 → j = min n ((lsOf A).length - k)) ∧ (e ≠ 0 → e = 6) ∧
      stepS room sh (vhd id ++ flat (A ++ New)) ((lsOf A).drop k) n (volS nm (vhd id ++ flat (A ++ New)) (shS sh (vhd id ++ gone id A k) la)) = (volS nm (vhd id ++ flat (A ++ New)) (shS sh (vhd id ++ gone id A (k + j)) la), j, e) ∧
      (e = 0 ↔ 8 + lenR (A ++ New) + 8 + sumN ((lsOf A).take (k + n)) ≤ room) := by
  have hD : (vhd id ++ flat (A ++ New)).length = 8 + lenR (A ++ New) := by rw [List.length_append, flatR_len, vhd_len]
  have hAN := lenR_app A New
  have hX : (vhd id ++ gone id A k).length = 8 + sumN ((lsOf A).take k) := by rw [List.length_append, gone_len, vhd_len]
  obtain ⟨j, e, h1, h2, h3, h4, h5, h6⟩ := stepS_two (room := room) (nm := nm) (sh := sh) (D := vhd id ++ flat (A ++ New)) (la := la) hne hsh (E := vhd id ++ flat (A ++ New)) (ps := (lsOf A).drop k) (n := n) (X := vhd id ++ gone id A k)
    (fun p hp => by have := (lsOf_in (List.mem_of_mem_drop hp)).1; omega) (by omega)
  rw [List.length_drop] at h1 h3
  refine ⟨j, e, by omega, h2, h3, h4, ?_, h6.trans ?_⟩
  · rw [h5, List.append_assoc, gone_more]
  · rw [hX, hD, List.take_add, sumN_app]
    constructor <;> intro h <;> omega
/-- what a commit lays -/
theorem com_two (hne : nm ≠ sh) (hsh : 1 ≤ sh.size ∧ sh.size ≤ 64) (A New : List Nd) (k : Nat) (la : Nat) (h0 : 8 + lenR (A ++ New) + 8 + sumN ((lsOf A).take k) ≤ room) :
    ∃ X' e, comS room sh (vhd id ++ flat (A ++ New)) ((lsOf A).drop k) New (volS nm (vhd id ++ flat (A ++ New)) (shS sh (vhd id ++ gone id A k) la)) = (volS nm (vhd id ++ flat (A ++ New)) (shS sh X' la), e) ∧ (e ≠ 0 → e = 6) ∧
      (e = 0 ↔ 8 + lenR (A ++ New) + 8 + lenR (keepR (foldP 8 [] A) 8 A) + lenR New ≤ room) ∧ (e = 0 → X' = vhd id ++ flat (keepR (foldP 8 [] A) 8 A ++ New)) := by
  have hD : (vhd id ++ flat (A ++ New)).length = 8 + lenR (A ++ New) := by rw [List.length_append, flatR_len, vhd_len]
  obtain ⟨j, e, h1, h2, h3, h6, h4, h5⟩ := step_two (room := room) (id := id) hne hsh A New k ((lsOf A).drop k).length la h0
  have hsum : sumN ((lsOf A).take (k + ((lsOf A).drop k).length)) = lenR (keepR (foldP 8 [] A) 8 A) := by
    rw [List.take_of_length_le (by rw [List.length_drop]; omega), lsOf_sum]
  rw [hsum] at h5
  rw [comS, h4]
  dsimp only
  by_cases he : e = 0
  case neg =>
    rw [if_neg he]
    exact ⟨_, _, rfl, h6, ⟨fun h => absurd h he, fun h => absurd (h5.2 (by omega)) he⟩, fun h => absurd h he⟩
  rw [if_pos he]
  have hj := h3 he
  rw [List.length_drop, Nat.min_self] at hj
  have hall : gone id A (k + j) = flat (keepR (foldP 8 [] A) 8 A) := gone_all id (by omega)
  rw [hall]
  have hX : (vhd id ++ flat (keepR (foldP 8 [] A) 8 A)).length = 8 + lenR (keepR (foldP 8 [] A) 8 A) := by rw [List.length_append, flatR_len, vhd_len]
  have hroom := h5.1 he
  obtain ⟨q, e2, g1, g2, g3, g4⟩ := lateS_two (room := room) (nm := nm) (sh := sh) (D := vhd id ++ flat (A ++ New)) (la := la) hne hsh (New := New) (X := vhd id ++ flat (keepR (foldP 8 [] A) 8 A)) (by omega)
  rw [g3]
  refine ⟨_, e2, rfl, g2, g4.trans ⟨fun h => by omega, fun h => by omega⟩, fun h => ?_⟩
  rw [g1 h, List.take_length, flat_app, List.append_assoc]
end
end Go.Proofs.YtladfadcgfdbfaaGreatDoor
namespace Go.Proofs.YtladfadcgfdbfaaGreatDoor
open Go.RowKit Go.Lib
set_option linter.unusedVariables false
set_option linter.unusedSimpArgs false
set_option maxRecDepth 100000
theorem DkS.tot {B : Nat} {w0 w : World} {b room : Nat} {S : List Fl} {F : List Res} (h : DkS B w0 w b room S F) : totS S ≤ room := by
  obtain ⟨mo, fs, rfl, hok, _⟩ := h.of
  rw [tot_fl]; exact hok.tot
/-- a job, and its places -/
def jobR (j d id : Nat) (nm : ByteArray) (A : List Nd) (rv lv : Value) (F : List Res) : List Res :=
  .blk j (jC d id nm (shN nm) lv (8 + lenR A) (funcJ j) false) 76 :: .row 87 5 rv (lsOf A).length ((lsOf A).flatMap pcC) :: F
theorem lenR_len (Rs : List Nd) : 28 * Rs.length ≤ lenR Rs := by
  induction Rs with
  | nil => simp
  | cons r rs ih =>
    have := szR_le r
    simp only [lenR, List.map_cons, List.sum_cons, List.length_cons] at *
    omega
theorem open_vol {nm : ByteArray} {id : Nat} {R : List UInt8} {T : List Fl} : openE (volS nm (vhd id ++ R) T) nm id = 0 := by
  have h8 := vhd_len id
  rw [openE, vol_get]
  dsimp only
  rw [if_pos]
  exact ⟨by simp [h8], List.take_left' h8⟩
section
variable {B d j v m room id la : Nat} {nm : ByteArray} {F : List Res} {w0 w : World}
theorem vputY_fn {Rs : List Nd} {T : List Fl} (hn : NameIn B w0 id nm) (key cook : Nat) (dead : Bool) (nv : Value) (xs : List UInt8) (hk : key < 18446744073709551616) (hc : cook < 4294967296)
    (hE : encNE dead xs.length = 0) (hB : vputB (foldP 8 [] Rs) key dead = 0) (h4 : 8 + lenR Rs + szN xs.length ≤ 4194304) (hr : 8 + lenR Rs + totS T + szN xs.length ≤ room)
    (hnv : ∀ w', Sep Tryz.prog B w0 w' F → Sl w' nv (bv xs)) (hD : DkS B w0 w d room (volS nm (vhd id ++ flat Rs) T) (.blk v (volC d id nm m) 100 :: .mp 38 m ((foldP 8 [] Rs).map pcE) :: F)) :
    Fn Tryz.prog 18 #[ptr v, .agg (ndC key cook dead nv).toArray] w fun r w' => r = .int .i64 0 ∧
      DkS B w0 w' d room (volS nm (vhd id ++ flat (Rs ++ [⟨key, cook, dead, xs⟩])) T) (.blk v (volC d id nm m) 100 :: .mp 38 m ((foldP 8 [] (Rs ++ [⟨key, cook, dead, xs⟩])).map pcE) :: F) := by
  have hnm := hn.1.2
  have hl : (vhd id ++ flat Rs).length = 8 + lenR Rs := by rw [List.length_append, flatR_len, vhd_len]
  have hE0 : vputE room (volS nm (vhd id ++ flat Rs) T) nm (foldP 8 [] Rs) key dead xs.length = 0 := by
    rw [vputE, if_neg (fun h => h hE), if_neg (fun h => h hB), if_neg (by rw [vol_sz, hl]; omega), vol_appE hnm, if_neg (by rw [hl]; omega)]
  refine (vput_fn hn key cook dead nv xs hk hc (foldP_nd Rs 8 [] NdP.nil) hnv hD).mono fun r w ⟨hr, hD⟩ => ?_
  obtain ⟨h1, h2, h3, h4⟩ := vol_put_ok (cook := cook) hnm hE0
  rw [h3, h4, hl] at hD
  rw [hE0] at hr
  refine ⟨hr, ?_⟩
  rw [flat_app, foldP_snoc, ← List.append_assoc]
  simpa [flat, encR, placeOf, szR] using hD
theorem begin_one (hn : NameIn B w0 id nm) (hsz : nm.size ≤ 60) (Rs : List Nd) (hok : ∀ r ∈ Rs, OkRec r) (hRl : Rs.length ≤ 1000000) (hroom : 8 + lenR Rs + 8 ≤ room) (hD : DkS B w0 w d room (volS nm (vhd id ++ flat Rs) []) F) :
    Fn Tryz.prog 10 #[ptr d, .int .i64 (id : Int)] w fun r w' => ∃ j rv, r = .tuple #[ptr j, .int .i64 0] ∧ LeftIs rv (lsOf Rs).length 0 rv ∧
      DkS B w0 w' d room (volS nm (vhd id ++ flat Rs) (shS (shN nm) (vhd id ++ gone id Rs 0) 0)) (jobR j d id nm Rs rv rv F) := by
  have hnm := hn.1.2
  have hl : (vhd id ++ flat Rs).length = 8 + lenR Rs := by rw [List.length_append, flatR_len, vhd_len]
  have hs6 : 1 ≤ (shN nm).size ∧ (shN nm).size ≤ 64 := by rw [shN_size]; omega
  have hE : appE room (volS nm (vhd id ++ flat Rs) []) (shN nm) 8 = 0 := by rw [one_appE (shN_ne nm) hs6, if_neg (by rw [hl]; omega)]
  refine (jbegin_fn hn Rs hok _ vol_get hRl hD).mono fun r w ⟨_, _, h⟩ => ?_
  obtain ⟨j, rv, ls, hp, hs, hr, hlv, hD⟩ := h (by rw [vol_get_ne (shN_ne nm)]; rfl) hE
  have hls : ls = lsOf Rs := ls_eq hp hs
  subst hls
  rw [one_app_sh (shN_ne nm) hs6 (by rw [vhd_len]; exact hE)] at hD
  refine ⟨j, rv, hr, hlv, ?_⟩
  rw [gone, List.take_zero, List.flatMap_nil, List.append_nil]
  exact hD
theorem commit_one {rv lv : Value} (hn : NameIn B w0 id nm) (hsz : nm.size ≤ 60) (A New : List Nd) (hok : ∀ r ∈ A ++ New, OkRec r) (k : Nat) (hk : k ≤ (lsOf A).length) (hlen : (lsOf A).length ≤ 1000000) (hlv : LeftIs rv (lsOf A).length k lv)
    (hD : DkS B w0 w d room (volS nm (vhd id ++ flat (A ++ New)) (shS (shN nm) (vhd id ++ gone id A k) la)) (jobR j d id nm A rv lv F)) :
    Fn Tryz.prog 8 #[ptr j] w fun r w' => ∃ lv',
      (8 + lenR (A ++ New) + 8 + lenR (keepR (foldP 8 [] A) 8 A) + lenR New ≤ room → ∃ v m, r = .tuple #[ptr v, .int .i64 0] ∧
        DkS B w0 w' d room (volS nm (vhd id ++ flat (keepR (foldP 8 [] A) 8 A ++ New)) []) (.blk v (volC d id nm m) 100 :: .mp 38 m ((foldP 8 [] (keepR (foldP 8 [] A) 8 A ++ New)).map pcE) :: .blk j (jC d id nm (shN nm) lv' (8 + lenR A) (funcJ j) true) 76 :: F)) ∧
      (¬ 8 + lenR (A ++ New) + 8 + lenR (keepR (foldP 8 [] A) 8 A) + lenR New ≤ room → r = .tuple #[.pointer none, .int .i64 6] ∧
        DkS B w0 w' d room (volS nm (vhd id ++ flat (A ++ New)) []) (.blk j (jC d id nm (shN nm) lv' (8 + lenR A) (funcJ j) true) 76 :: F)) := by
  have hnm := hn.1.2
  have h8 := vhd_len id
  have hl : (vhd id ++ flat (A ++ New)).length = 8 + lenR (A ++ New) := by rw [List.length_append, flatR_len, vhd_len]
  have hs6 : 1 ≤ (shN nm).size ∧ (shN nm).size ≤ 64 := by rw [shN_size]; omega
  have h0 := hD.tot
  rw [vol_tot, sh_tot, hl, List.length_append, vhd_len, gone_len] at h0
  obtain ⟨X', e, g1, g2, g3, g4⟩ := com_two (room := room) (id := id) (la := la) (shN_ne nm) hs6 A New k (by omega)
  refine (commit_fn hn (by omega) (shN_ne nm) A New (fun r hr => hok r (by simp [hr])) _ rfl vol_get rv lv k (lsOf A) hk hlv (fun p hp => by have := lsOf_in hp; rw [hl, lenR_app]; omega) hlen hD).mono fun r w hr => ?_
  rw [g1] at hr
  obtain ⟨hr1, hr2⟩ := hr
  dsimp only at hr1 hr2
  by_cases he : e = 0
  · have hX := g4 he
    subst hX
    rw [two_com (shN_ne nm)] at hr2
    obtain ⟨lv', v, m, ps, o, hsc, hnd, hop, hr, hD⟩ := (hr2 he).2 open_vol
    rw [vol_dat, ← h8] at hsc
    have hokK : ∀ r ∈ keepR (foldP 8 [] A) 8 A ++ New, OkRec r := fun r hr => by
      rcases List.mem_append.1 hr with hr | hr
      · exact keep_ok (fun r hr => hok r (by simp [hr])) r hr
      · exact hok r (by simp [hr])
    obtain ⟨hps, rfl⟩ := scan_clean _ hokK hsc
    rw [h8] at hps
    subst hps
    exact ⟨lv', fun _ => ⟨v, m, hr, hD⟩, fun h => absurd (g3.1 he) h⟩
  · obtain ⟨lv', hr, hD⟩ := hr1 he
    rw [two_del (shN_ne nm)] at hD
    rw [g2 he] at hr
    exact ⟨lv', fun h => absurd (g3.2 h) he, fun _ => ⟨hr, hD⟩⟩
end
def ka : Nd := ⟨1, 0, false, [97]⟩
def kb : Nd := ⟨2, 0, false, [98]⟩
def kc : Nd := ⟨1, 0, true, []⟩
set_option maxHeartbeats 8000000 in
theorem knownJ_fn (w0 : World) : Fn Tryz.prog 12 #[] w0 fun r w' => r = .bool true ∧ Below w0.heap.size w0 w' := by
  have hL := Sep.start Tryz.prog w0
  have hB := Nat.le_refl w0.heap.size
  have hn := nameIs (B := w0.heap.size) (w0 := w0) 1 (by decide)
  have hsz : (vnm 1).size ≤ 60 := by decide
  have hnm := hn.1.2
  refine Fn.mk Tryz.func12 rfl (by kernel_rfl) Tryz.ntmps12 rfl (by rw [Tryz.results12]) ?_
  repeat (first | (refine RunH ?_; intro w hL hB; try clear w) | (refine Both.mk ?_ ?_ <;> conv => whnf) | fail)
  refine (new_fn 1000 hL hB).mono fun r w hr => ?_
  obtain ⟨d, rfl, hD⟩ := hr.1 (by decide)
  clear hr hL hB
  obtain ⟨dL, hL, hB, close⟩ := hD.open
  clear hD
  conv => whnf
  repeat (first | (refine RunH ?_; intro w hL hB; try clear w) | (refine Both.mk ?_ ?_ <;> conv => whnf) | fail)
  refine (create_fn hn (close (F' := []) hL hB)).mono fun r w ⟨_, _, hr⟩ => ?_
  obtain ⟨v, m, rfl, hD⟩ := hr rfl (one_create hnm (by decide) (id := 1)).1
  rw [(one_create hnm (by decide)).2] at hD
  clear hr hL hB close
  replace hD : DkS w0.heap.size w0 w d (1000 : Int).toNat (volS (vnm 1) (vhd 1 ++ flat []) []) (.blk v (volC d 1 (vnm 1) m) 100 :: .mp 38 m ((foldP 8 [] ([] : List Nd)).map pcE) :: []) := by simpa [flat, foldP, vol_one] using hD
  obtain ⟨dL, hL, hB, close⟩ := hD.open
  clear hD
  conv => whnf
  repeat (first | (refine RunH ?_; intro w hL hB; try clear w) | (refine Both.mk ?_ ?_ <;> conv => whnf) | fail)
  refine Rv.lit hL [97] rfl (by decide) hB fun bo w hL hB => ?_
  conv => whnf
  repeat (first | (refine RunH ?_; intro w hL hB; try clear w) | (refine Both.mk ?_ ?_ <;> conv => whnf) | fail)
  refine Rv.sameS ttOk hL 0 tl40 tl5 rfl hB fun w hL hB => ?_
  replace hL := hL.perm (List.perm_middle (l₁ := [_, _])).symm
  conv => whnf
  repeat (first | (refine RunH ?_; intro w hL hB; try clear w) | (refine Both.mk ?_ ?_ <;> conv => whnf) | fail)
  refine (vputY_fn (Rs := []) (T := []) hn 1 0 false _ [97] (by decide) (by decide) (by decide) (by decide) (by decide) (by decide) (fun w' h => h.roSl (i := 0) rfl) (close (F' := [_, _, _]) hL hB)).mono fun r w ⟨hr, hD⟩ => ?_
  subst hr
  clear hL hB close
  obtain ⟨dL, hL, hB, close⟩ := hD.open
  clear hD
  conv => whnf
  repeat (first | (refine RunH ?_; intro w hL hB; try clear w) | (refine Both.mk ?_ ?_ <;> conv => whnf) | fail)
  refine Rv.lit hL [98] rfl (by decide) hB fun bo w hL hB => ?_
  conv => whnf
  repeat (first | (refine RunH ?_; intro w hL hB; try clear w) | (refine Both.mk ?_ ?_ <;> conv => whnf) | fail)
  refine Rv.sameS ttOk hL 0 tl40 tl5 rfl hB fun w hL hB => ?_
  replace hL := hL.perm (List.perm_middle (l₁ := [_, _])).symm
  conv => whnf
  repeat (first | (refine RunH ?_; intro w hL hB; try clear w) | (refine Both.mk ?_ ?_ <;> conv => whnf) | fail)
  refine (vputY_fn (Rs := [] ++ [ka]) (T := []) hn 2 0 false _ [98] (by decide) (by decide) (by decide) (by decide) (by decide) (by decide) (fun w' h => h.roSl (i := 0) rfl) (close (F' := [_, _, _, _]) hL hB)).mono fun r w ⟨hr, hD⟩ => ?_
  subst hr
  clear hL hB close
  obtain ⟨dL, hL, hB, close⟩ := hD.open
  clear hD
  conv => whnf
  repeat (first | (refine RunH ?_; intro w hL hB; try clear w) | (refine Both.mk ?_ ?_ <;> conv => whnf) | fail)
  refine (vputY_fn (Rs := [] ++ [ka] ++ [kb]) (T := []) hn 1 0 true _ [] (by decide) (by decide) (by decide) (by decide) (by decide) (by decide) (fun w' h => Sl.nil _) (close (F' := [_, _, _, _]) hL hB)).mono fun r w ⟨hr, hD⟩ => ?_
  subst hr
  clear hL hB close
  replace hD : DkS w0.heap.size w0 w d (1000 : Int).toNat (volS (vnm 1) (vhd 1 ++ flat [ka, kb, kc]) []) _ := hD
  obtain ⟨dL, hL, hB, close⟩ := hD.open
  clear hD
  have hok : ∀ r ∈ [ka, kb, kc], OkRec r := fun r hr => by
    simp only [List.mem_cons, List.not_mem_nil, or_false] at hr
    rcases hr with rfl | rfl | rfl <;> exact ⟨by decide, by decide, by decide⟩
  conv => whnf
  repeat (first | (refine RunH ?_; intro w hL hB; try clear w) | (refine Both.mk ?_ ?_ <;> conv => whnf) | fail)
  refine (begin_one hn hsz [ka, kb, kc] hok (by decide) (by decide) (close (F' := [_, _, _, _]) hL hB)).mono fun r w ⟨j, rv, hr, hlv, hD⟩ => ?_
  subst hr
  clear hL hB close
  obtain ⟨dL, hL, hB, close⟩ := hD.open
  clear hD
  rw [jobR] at hL
  conv => whnf
  repeat (first | (refine RunH ?_; intro w hL hB; try clear w) | (refine Both.mk ?_ ?_ <;> conv => whnf) | fail)
  refine (commit_one (New := []) hn hsz [ka, kb, kc] hok 0 (Nat.zero_le _) (Nat.le_trans (lsOf_len _) (by decide)) hlv (close (F' := jobR j d 1 (vnm 1) [ka, kb, kc] rv rv _) hL hB)).mono fun r w ⟨lv', hr, _⟩ => ?_
  obtain ⟨v2, m2, hr, hD⟩ := hr (by decide)
  subst hr
  clear hL hB close
  have hKs : keepR (foldP 8 [] [ka, kb, kc]) 8 [ka, kb, kc] ++ [] = [kb, kc] := by
    simp [keepR, foldP, layP, getP, getA, putP, putA, placeOf, ka, kb, kc, szR, szN]
  rw [hKs] at hD
  have hl : (vhd 1 ++ flat [kb, kc]).length = 72 := by rw [List.length_append, flatR_len, vhd_len]; decide
  have hsum : sumN (foldP 8 [] [kb, kc]) = 64 := by decide
  have hndp : NdP (foldP 8 [] [kb, kc]) := by decide
  obtain ⟨dL, hL, hB, close⟩ := hD.open
  clear hD
  conv => whnf
  repeat (first | (refine RunH ?_; intro w hL hB; try clear w) | (refine Both.mk ?_ ?_ <;> conv => whnf) | fail)
  replace hL := hL.perm (.swap _ _ _)
  replace hL := hL.perm (.swap _ _ _)
  refine (vsize_fn (by omega) (close (F' := _ :: _ :: _ :: [_, _, _, _]) hL hB)).mono fun r w ⟨hr, hD⟩ => ?_
  rw [vol_sz, hl] at hr
  subst hr
  clear hL hB close
  obtain ⟨dL, hL, hB, close⟩ := hD.open
  clear hD
  conv => whnf
  repeat (first | (refine RunH ?_; intro w hL hB; try clear w) | (refine Both.mk ?_ ?_ <;> conv => whnf) | fail)
  refine (vdirt_fn (by omega) hndp (by omega) (close (F' := _ :: _ :: _ :: [_, _, _, _]) hL hB)).mono fun r w ⟨hr, hD⟩ => ?_
  rw [vol_sz, hl, hsum] at hr
  subst hr
  clear hL hB close
  obtain ⟨dL, hL, hB, close⟩ := hD.open
  clear hD
  conv => whnf
  repeat (first | (refine RunH ?_; intro w hL hB; try clear w) | (refine Both.mk ?_ ?_ <;> conv => whnf) | fail)
  exact ⟨rfl, hL.below⟩
end Go.Proofs.YtladfadcgfdbfaaGreatDoor
