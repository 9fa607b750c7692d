/- vacuum and garnerref13: jobs that are over, Clear, Begin in any case. VacuumPlays: a volume with a job in both; a pair is opened. Nothing is claimed here. -/
import Derived.Test.YtladfadcgfdbfaaGreatDoorD43
namespace Go.Proofs.YtladfadcgfdbfaaGreatDoor
open Go.RowKit Go.Lib
set_option linter.unusedVariables false
set_option linter.unusedSimpArgs false
set_option maxRecDepth 100000
section
variable {B d k x j jr room id la : Nat} {nm : ByteArray} {T S : List Fl} {R : List Fl} {F : List Res} {w0 w : World}
theorem stepOver_fn {lv nf : Value} {bg : Nat} {sh : ByteArray} (N : Int) (hD : DkS B w0 w d room S (.blk j (jC d id nm sh lv bg nf true) 76 :: F)) :
    Fn Tryz.prog 7 #[ptr j, .int .i64 N] w fun r w' => r = .tuple #[.bool false, .int .i64 1] ∧ DkS B w0 w' d room S (.blk j (jC d id nm sh lv bg nf true) 76 :: F) := by
  obtain ⟨dL, hL, hB, close⟩ := hD.open
  rw [jC] at *
  refine Fn.mk Tryz.func7 rfl (by kernel_rfl) Tryz.ntmps7 rfl (by rw [Tryz.results7]) ?_
  repeat (first | (refine RunH ?_; intro w hL hB; try clear w) | (refine Both.mk ?_ ?_ <;> conv => whnf) | fail)
  exact ⟨rfl, hD⟩
theorem commitOver_fn {lv nf : Value} {bg : Nat} {sh : ByteArray} (hD : DkS B w0 w d room S (.blk j (jC d id nm sh lv bg nf true) 76 :: F)) :
    Fn Tryz.prog 8 #[ptr j] w fun r w' => r = .tuple #[.pointer none, .int .i64 1] ∧ DkS B w0 w' d room S (.blk j (jC d id nm sh lv bg nf true) 76 :: F) := by
  obtain ⟨dL, hL, hB, close⟩ := hD.open
  rw [jC] at *
  refine Fn.mk Tryz.func8 rfl (by kernel_rfl) Tryz.ntmps8 rfl (by rw [Tryz.results8]) ?_
  repeat (first | (refine RunH ?_; intro w hL hB; try clear w) | (refine Both.mk ?_ ?_ <;> conv => whnf) | fail)
  exact ⟨rfl, hD⟩
theorem rstepOver_fn {lv : Value} {en : Nat} (N : Int) (hD : RkS B w0 w k room R (.blk jr (rjC k id x lv en true) 155 :: F)) :
    Fn Tryz.prog 52 #[ptr jr, .int .i64 N] w fun r w' => r = .tuple #[.bool false, .int .i64 1] ∧ RkS B w0 w' k room R (.blk jr (rjC k id x lv en true) 155 :: F) := by
  obtain ⟨dL, hL, hB, close⟩ := hD.open
  rw [rjC] at *
  refine Fn.mk Tryz.func52 rfl (by kernel_rfl) Tryz.ntmps52 rfl (by rw [Tryz.results52]) ?_
  repeat (first | (refine RunH ?_; intro w hL hB; try clear w) | (refine Both.mk ?_ ?_ <;> conv => whnf) | fail)
  exact ⟨rfl, hD⟩
theorem rcommitOver_fn {lv : Value} {en : Nat} (hD : RkS B w0 w k room R (.blk jr (rjC k id x lv en true) 155 :: F)) :
    Fn Tryz.prog 53 #[ptr jr] w fun r w' => r = .tuple #[.pointer none, .int .i64 1] ∧ RkS B w0 w' k room R (.blk jr (rjC k id x lv en true) 155 :: F) := by
  obtain ⟨dL, hL, hB, close⟩ := hD.open
  rw [rjC] at *
  refine Fn.mk Tryz.func53 rfl (by kernel_rfl) Tryz.ntmps53 rfl (by rw [Tryz.results53]) ?_
  repeat (first | (refine RunH ?_; intro w hL hB; try clear w) | (refine Both.mk ?_ ?_ <;> conv => whnf) | fail)
  exact ⟨rfl, hD⟩
theorem rclear_fn (hid : id ≤ 99999999) (hnm : vnmG id = nm) (hD : RkS B w0 w k room R F) :
    Fn Tryz.prog 55 #[ptr k, .int .i64 (id : Int)] w fun r w' => r = .bool (getS R (shN nm)).isSome ∧ RkS B w0 w' k room (delS R (shN nm)) F := by
  have hns := vnmG_size hid
  have hname := nameR_fn id hid
  have hsh := shadow_fn id hid
  rw [hnm] at hname hns hsh
  have hne : ¬ nm = ByteArray.mk #[] := fun h => by rw [h] at hns; exact absurd hns (by decide)
  obtain ⟨dL, hL, hB, close⟩ := hD.open
  refine Fn.mk Tryz.func55 rfl (by kernel_rfl) Tryz.ntmps55 rfl (by rw [Tryz.results55]) ?_
  repeat (first | (refine RunH ?_; intro w hL hB; try clear w) | (refine Both.mk ?_ ?_ <;> conv => whnf) | (refine (hname _).mono fun r w hr => ?_; obtain ⟨hr, hw⟩ := hr; subst hr; replace hL := hL.call hB (Turns.of_below hw); replace hB := Nat.le_trans hB hw.size; conv => whnf) | fail)
  refine (hsh _).mono fun r w ⟨hr, hw⟩ => ?_
  subst hr
  replace hL := hL.call hB (Turns.of_below hw)
  replace hB := Nat.le_trans hB hw.size
  conv => whnf
  repeat (first | (refine RunH ?_; intro w hL hB; try clear w) | (refine Both.mk ?_ ?_ <;> conv => whnf) | fail)
  refine (removeR_fn (shN nm) (close (F' := F) hL hB)).mono fun r w ⟨hr, hD⟩ => ?_
  subst hr
  clear hL hB close
  obtain ⟨dL, hL, hB, close⟩ := hD.open
  cases hs : (getS R (shN nm)).isSome with
  | true =>
    conv => whnf
    repeat (first | (refine RunH ?_; intro w hL hB; try clear w) | (refine Both.mk ?_ ?_ <;> conv => whnf) | fail)
    exact ⟨rfl, hD⟩
  | false =>
    conv => whnf
    repeat (first | (refine RunH ?_; intro w hL hB; try clear w) | (refine Both.mk ?_ ?_ <;> conv => whnf) | fail)
    exact ⟨rfl, hD⟩
theorem begin_any (hn : NameIn B w0 id nm) (hsz : nm.size ≤ 60) (Rs : List Nd) (hok : ∀ r ∈ Rs, OkRec r) (hRl : Rs.length ≤ 1000000) (hT : T = [] ∨ ∃ X la, T = shS (shN nm) X la) (hD : DkS B w0 w d room (volS nm (vhd id ++ flat Rs) T) F) :
    Fn Tryz.prog 10 #[ptr d, .int .i64 (id : Int)] w fun r w' =>
      (T ≠ [] → r = .tuple #[.pointer none, .int .i64 8] ∧ DkS B w0 w' d room (volS nm (vhd id ++ flat Rs) T) F) ∧
      (T = [] → ¬ 8 + lenR Rs + 8 ≤ room → r = .tuple #[.pointer none, .int .i64 6] ∧ DkS B w0 w' d room (volS nm (vhd id ++ flat Rs) T) F) ∧
      (T = [] → 8 + lenR Rs + 8 ≤ room → ∃ j rv, r = .tuple #[ptr j, .int .i64 0] ∧ LeftIs rv (lsOf Rs).length 0 rv ∧ DkS B w0 w' d room (volS nm (vhd id ++ flat Rs) (shS (shN nm) (vhd id ++ gone id Rs 0) 0)) (jobR j d id nm Rs rv rv F)) := by
  have hnm := hn.1.2
  have hl : (vhd id ++ flat Rs).length = 8 + lenR Rs := by rw [List.length_append, flatR_len, vhd_len]
  have hs6 : 1 ≤ (shN nm).size ∧ (shN nm).size ≤ 64 := by rw [shN_size]; omega
  refine (jbegin_fn hn Rs hok _ vol_get hRl hD).mono fun r w ⟨h1, h2, h3⟩ => ?_
  rcases hT with rfl | ⟨X, la, rfl⟩
  · have hgn : (getS (volS nm (vhd id ++ flat Rs) []) (shN nm)).isSome = false := by rw [vol_get_ne (shN_ne nm)]; rfl
    have hE : appE room (volS nm (vhd id ++ flat Rs) []) (shN nm) 8 = if room < 8 + lenR Rs + 8 then 6 else 0 := by rw [one_appE (shN_ne nm) hs6, hl]
    refine ⟨fun h => absurd rfl h, fun _ hr => ?_, fun _ hr => ?_⟩
    · rw [if_pos (by omega)] at hE
      have := h2 hgn (by rw [hE]; decide)
      rw [hE] at this
      exact this
    · rw [if_neg (by omega)] at hE
      obtain ⟨j, rv, ls, hp, hs, hr, hlv, hD⟩ := h3 hgn hE
      have hls : ls = lsOf Rs := ls_eq hp hs
      subst hls
      rw [one_app_sh (shN_ne nm) hs6 (by rw [vhd_len]; exact hE)] at hD
      refine ⟨j, rv, hr, hlv, ?_⟩
      rw [gone, List.take_zero, List.flatMap_nil, List.append_nil]
      exact hD
  · refine ⟨fun _ => h1 (by rw [two_get (shN_ne nm)]; rfl), fun h => by simp [shS] at h, fun h => by simp [shS] at h⟩
theorem step_oneQ {rv lv : Value} (hn : NameIn B w0 id nm) (hsz : nm.size ≤ 60) (A New : List Nd) (k0 : Nat) (hk : k0 ≤ (lsOf A).length) (N : Int) (hN : N ≤ 9223372036854775807) (hlv : LeftIs rv (lsOf A).length k0 lv) (q e : Nat)
    (hz : stepS room (shN nm) (vhd id ++ flat (A ++ New)) ((lsOf A).drop k0) N.toNat (volS nm (vhd id ++ flat (A ++ New)) (shS (shN nm) (vhd id ++ gone id A k0) la)) = (volS nm (vhd id ++ flat (A ++ New)) (shS (shN nm) (vhd id ++ gone id A (k0 + q)) la), q, e))
    (hD : DkS B w0 w d room (volS nm (vhd id ++ flat (A ++ New)) (shS (shN nm) (vhd id ++ gone id A k0) la)) (jobR j d id nm A rv lv F)) :
    Fn Tryz.prog 7 #[ptr j, .int .i64 N] w fun r w' => ∃ lv', k0 + q ≤ (lsOf A).length ∧ r = .tuple #[.bool (decide (e = 0 ∧ k0 + q = (lsOf A).length)), .int .i64 (e : Nat)] ∧ LeftIs rv (lsOf A).length (k0 + q) lv' ∧
      DkS B w0 w' d room (volS nm (vhd id ++ flat (A ++ New)) (shS (shN nm) (vhd id ++ gone id A (k0 + q)) la)) (jobR j d id nm A rv lv' F) := by
  have hnm := hn.1.2
  have hl : (vhd id ++ flat (A ++ New)).length = 8 + lenR (A ++ New) := by rw [List.length_append, flatR_len, vhd_len]
  refine (step_fn (by omega) (by rw [shN_size]; omega) (shN_ne nm) (vhd id ++ flat (A ++ New)) _ rv lv k0 N hN (lsOf A) hk hlv vol_get (fun p hp => by have := lsOf_in hp; rw [hl, lenR_app]; omega) hD).mono fun r w ⟨lv', hr, hk2, hlv2, hD⟩ => ?_
  rw [hz] at hr hk2 hlv2 hD
  exact ⟨lv', hk2, hr, hlv2, hD⟩
end
end Go.Proofs.YtladfadcgfdbfaaGreatDoor
namespace Go.Proofs.YtladfadcgfdbfaaGreatDoor
open Go.RowKit Go.Lib
set_option linter.unusedVariables false
set_option linter.unusedSimpArgs false
set_option maxRecDepth 100000
structure Vst where
  kind : Int
  n : Int
  key : Nat
  cook : Nat
  dead : Bool
  dV : Value
  d : List UInt8
def vstC (s : Vst) : List Value := [.int .i64 s.kind, .int .i64 s.n, .int .u64 (s.key : Int), .int .u32 (s.cook : Int), .bool s.dead, s.dV]
theorem vstC_len (s : Vst) : (vstC s).length = 6 := rfl
structure OkVst (w0 : World) (s : Vst) : Prop where
  n : -9223372036854775808 ≤ s.n ∧ s.n ≤ 9223372036854775807
  key : s.key < 18446744073709551616
  cook : s.cook < 4294967296
  sl : Sl w0 s.dV (bv s.d)
/-- how the jobs stand -/
inductive JobS (d k : Nat) (nm : ByteArray) (Rs : List Nd) (T : List Fl) : Value → Value → List Res → Prop
  | no : JobS d k nm Rs T (.pointer none) (.pointer none) []
  | over (j jk x : Nat) (lv lv' : Value) (bg en : Nat) : JobS d k nm Rs T (ptr j) (ptr jk) [.blk j (jC d 5 nm (shN nm) lv bg (funcJ j) true) 76, .blk jk (rjC k 5 x lv' en true) 155]
  | act (j jk x : Nat) (A New : List Nd) (k0 : Nat) (rv lv rv' lv' xv : Value) (la : Nat) (h1 : Rs = A ++ New) (h2 : k0 ≤ (lsOf A).length) (h3 : LeftIs rv (lsOf A).length k0 lv) (h4 : LeftIs rv' (lsOf A).length k0 lv') (h5 : T = shS (shN nm) (vhd 5 ++ gone 5 A k0) la) :
      JobS d k nm Rs T (ptr j) (ptr jk) (jobR j d 5 nm A rv lv (rjR jk k 5 x A rv' lv' false xv []))
theorem JobS.shape {d k : Nat} {nm : ByteArray} {Rs : List Nd} {T : List Fl} {jv kv : Value} {J : List Res} (h : JobS d k nm Rs T jv kv J) : jv.oneCell' = true ∧ kv.oneCell' = true ∧ cellsL jv = [jv] ∧ cellsL kv = [kv] ∧ ((jv = .pointer none ∧ kv = .pointer none) ∨ ∃ j jk, jv = ptr j ∧ kv = ptr jk) := by
  cases h with
  | no => exact ⟨rfl, rfl, rfl, rfl, .inl ⟨rfl, rfl⟩⟩
  | over j jk => exact ⟨rfl, rfl, rfl, rfl, .inr ⟨j, jk, rfl, rfl⟩⟩
  | act j jk => exact ⟨rfl, rfl, rfl, rfl, .inr ⟨j, jk, rfl, rfl⟩⟩
theorem JobS.more {d k : Nat} {nm : ByteArray} {Rs : List Nd} {T : List Fl} {jv kv : Value} {J : List Res} (h : JobS d k nm Rs T jv kv J) (q : Nd) : JobS d k nm (Rs ++ [q]) T jv kv J := by
  cases h with
  | no => exact .no
  | over => exact .over ..
  | act j jk x A New k0 rv lv rv' lv' xv la h1 h2 h3 h4 h5 => exact .act j jk x A (New ++ [q]) k0 rv lv rv' lv' xv la (by rw [h1, List.append_assoc]) h2 h3 h4 h5
def pvRes (p d k v m x : Nat) (nm : ByteArray) (ra : Option Addr) (rc : Nat) (jv kv : Value) (Rs : List Nd) (F : List Res) : List Res :=
  .blk p [ptr d, ptr k, ptr v, ptr x, jv, kv] 52 :: .blk v (volC d 5 nm m) 100 :: .mp 38 m ((foldP 8 [] Rs).map pcE) :: rvRes x k 5 ra rc (plc 8 Rs) F
def ShT (nm : ByteArray) (T : List Fl) : Prop := T = [] ∨ ∃ X la, T = shS (shN nm) X la
structure Pv (B : Nat) (w0 w : World) (d k room p : Nat) (nm : ByteArray) (F : List Res) : Prop where
  of : ∃ Rs T v m x ra rc jv kv J, (∀ r ∈ Rs, OkRec r) ∧ ShT nm T ∧ JobS d k nm Rs T jv kv J ∧ Btw B w0 w d k room (volS nm (vhd 5 ++ flat Rs) T) (volS nm (vhd 5 ++ flat Rs) T) (pvRes p d k v m x nm ra rc jv kv Rs (J ++ F))
theorem srt_T {nm : ByteArray} {T : List Fl} (h : ShT nm T) (D : List UInt8) (la : Nat) : (((⟨nm, D, la⟩ : Fl) :: T).map (·.nm)).Pairwise ltF := by
  rcases h with rfl | ⟨X, lb, rfl⟩
  · exact .cons (fun x hx => by cases hx) .nil
  · simp only [shS, List.map_cons, List.map_nil]
    exact .cons (fun x hx => by simp only [List.mem_singleton] at hx; subst hx; exact ltF_shN nm) (.cons (fun x hx => by cases hx) .nil)
theorem hone_T {room : Nat} {nm : ByteArray} {T : List Fl} (hnm : 1 ≤ nm.size ∧ nm.size ≤ 64) (h : ShT nm T) (D : List UInt8) : ∀ (xs : List UInt8) (R' : List Fl), R'.Perm (appS room (volS nm D T) nm xs) → (R'.map (·.nm)).Pairwise ltF → R' = appS room (volS nm D T) nm xs := fun xs R' hp hs => by
  refine srt_eq hp hs ?_
  by_cases hE : appE room (volS nm D T) nm xs.length = 0
  · rw [appS, if_pos hE, appF, vol_get]
    simp only [volS, putS, if_pos]
    exact srt_T h _ _
  · rw [appS, if_neg hE]; exact srt_T h _ _
section
variable {B : Nat} {w0 w : World} {d k room p : Nat} {nm : ByteArray} {F : List Res}
theorem Btw.fr {Sd Sk : List Fl} (hb : Btw B w0 w d k room Sd Sk F) {i : Nat} {R : Res} (hi : F[i]? = some R) : Btw B w0 w d k room Sd Sk (R :: F.eraseIdx i) := hb.perm (front_perm hi)
theorem Btw.totD {Sd Sk : List Fl} (hb : Btw B w0 w d k room Sd Sk F) : totS Sd ≤ room := by
  obtain ⟨dR, hD, _⟩ := hb.dk
  exact hD.tot
set_option maxHeartbeats 8000000 in
theorem popenV_fn {pv px jv kv : Value} {Rs : List Nd} {T : List Fl} (hn : NameIn B w0 5 nm) (hnm : vnmG 5 = nm) (hok : ∀ r ∈ Rs, OkRec r) (hT : ShT nm T) {J : List Res} (hJ : JobS d k nm Rs T jv kv J) (hpv : (cellsL pv = [pv] ∧ pv.oneCell' = true) ∧ cellsL px = [px] ∧ px.oneCell' = true)
    (hb : Btw B w0 w d k room (volS nm (vhd 5 ++ flat Rs) T) (volS nm (vhd 5 ++ flat Rs) T) (.blk p [ptr d, ptr k, pv, px, jv, kv] 52 :: (J ++ F))) :
    Fn Tryz.prog 56 #[ptr p] w fun r w' => r = .bool true ∧ Pv B w0 w' d k room p nm F := by
  have h8 := vhd_len 5
  obtain ⟨j1, j2, _, _, _⟩ := hJ.shape
  obtain ⟨G, hL, hB, cl⟩ := hb.sep
  clear hb
  refine Fn.mk Tryz.func56 rfl (by kernel_rfl) Tryz.ntmps56 rfl (by rw [Tryz.results56]) ?_
  repeat (first | (refine RunH ?_; intro w hL hB; try clear w) | (refine Both.mk ?_ ?_ <;> conv => whnf) | fail)
  obtain ⟨dR, hD, back⟩ := (cl (F' := _ :: (J ++ F)) hL hB).dk
  refine (vopen_fn hn hD).mono fun r w ⟨_, h2⟩ => ?_
  obtain ⟨v, m, ps, o, hsc, hnd, hop, hr, hD⟩ := h2 open_vol
  clear h2
  subst hr
  rw [vol_dat, ← h8] at hsc
  obtain ⟨hps, rfl⟩ := scan_clean Rs hok hsc
  rw [h8] at hps
  subst hps
  simp only [cutAt] at hD
  obtain ⟨G, hL, hB, cl⟩ := (back (F' := _ :: _ :: _ :: (J ++ F)) hD).sep
  conv => whnf
  repeat (first | (refine RunH ?_; intro w hL hB; try clear w) | (refine Both.mk ?_ ?_ <;> conv => whnf) | fail)
  obtain ⟨dD, hD, back⟩ := (cl (F' := _ :: _ :: _ :: (J ++ F)) hL hB).rk
  refine (ropen_fn (by decide) hnm hD).mono fun r w ⟨_, h2⟩ => ?_
  obtain ⟨x, ra, rc, rL, o, hsc2, hok2, hlen2, hr, hD⟩ := h2 open_vol
  clear h2
  subst hr
  rw [vol_dat, ← h8] at hsc2
  obtain ⟨hrL, rfl⟩ := scanL_clean Rs hok hsc2
  rw [h8, List.nil_append] at hrL
  subst hrL
  simp only [cutAt] at hD
  obtain ⟨G, hL, hB, cl⟩ := (back (F' := rvRes x k 5 ra rc (plc 8 Rs) (_ :: _ :: _ :: (J ++ F))) hD).sep
  rw [rvRes] at hL
  conv => whnf
  repeat (first | (refine RunH ?_; intro w hL hB; try clear w) | (refine Both.mk ?_ ?_ <;> conv => whnf) | fail)
  refine ⟨by simp, ⟨Rs, T, v, m, x, ra, rc, jv, kv, J, hok, hT, hJ, ?_⟩⟩
  refine (cl (F' := _ :: _ :: _ :: _ :: _ :: (J ++ F)) hL hB).perm ?_
  have h1 := (List.perm_append_comm (l₁ := [Res.blk x [ptr k, .int .i64 ((5 : Nat) : Int), .slice ra (plc 8 Rs).length rc] 107, .row 87 5 (.slice ra (plc 8 Rs).length rc) (plc 8 Rs).length ((plc 8 Rs).flatMap pcC), .blk v (volC d 5 nm m) 100, .mp 38 m ((foldP 8 [] Rs).map pcE)]) (l₂ := [Res.blk p [ptr d, ptr k, ptr v, ptr x, jv, kv] 52])).append_right (J ++ F)
  exact h1.trans (.cons _ ((List.perm_append_comm (l₁ := [_, _]) (l₂ := [_, _])).append_right (J ++ F)))
end
end Go.Proofs.YtladfadcgfdbfaaGreatDoor
