/- disk: Crash, Copy. disk: what its users lean on. Nothing is claimed here. -/
import Derived.Test.YtjafamiaahabgaaGreatDoorK07
namespace Go.Proofs.YtjafamiaahabgaaGreatDoor
open Go.RowKit
open Go.Maps (Keyed)
set_option linter.unusedVariables false
set_option linter.unusedSimpArgs false
set_option maxRecDepth 100000

/-! ### lists of files: each turned -/
def stays (draw : Int) (i : Nat) (f : Fl) : Nat := f.la + ((max 0 draw).toNat % (f.d.length - f.la + 1) + i % (f.d.length - f.la + 1)) % (f.d.length - f.la + 1)
def crash1 (draw : Int) (i : Nat) (f : Fl) : Fl := ⟨f.nm, f.d.take (stays draw i f), stays draw i f⟩
def rank (S : List Fl) (f : Fl) : Nat := (names S).idxOf (nmB f.nm)
def crashK (S : List Fl) (draw : Int) (k : Nat) : List Fl := S.map fun f => if rank S f < k then crash1 draw (rank S f) f else f
def crashS (S : List Fl) (draw : Int) : List Fl := S.map fun f => crash1 draw (rank S f) f
theorem stays_le {draw : Int} {i : Nat} {f : Fl} (h : f.la ≤ f.d.length) : f.la ≤ stays draw i f ∧ stays draw i f ≤ f.d.length := by
  have := Nat.mod_lt ((max 0 draw).toNat % (f.d.length - f.la + 1) + i % (f.d.length - f.la + 1)) (show 0 < f.d.length - f.la + 1 by omega)
  unfold stays
  omega
theorem names_perm (S : List Fl) : (names S).Perm (S.map fun f => nmB f.nm) := List.mergeSort_perm _ _
theorem names_len (S : List Fl) : (names S).length = S.length := by have := (names_perm S).length_eq; simpa using this
theorem nmB_nd {S : List Fl} (h : (S.map (·.nm)).Nodup) : (S.map fun f => nmB f.nm).Nodup := by
  induction S with
  | nil => simp
  | cons f S ih =>
    simp only [List.map_cons, List.nodup_cons, List.mem_map, not_exists, not_and] at h ⊢
    exact ⟨fun g hg he => h.1 g hg (nmB_inj he), ih h.2⟩
theorem names_nd {S : List Fl} (h : (S.map (·.nm)).Nodup) : (names S).Nodup := (names_perm S).nodup_iff.2 (nmB_nd h)
theorem rank_lt {S : List Fl} {f : Fl} (hf : f ∈ S) : rank S f < S.length := by
  rw [← names_len]
  exact List.idxOf_lt_length_iff.2 ((names_perm S).mem_iff.2 (List.mem_map_of_mem (f := fun f : Fl => nmB f.nm) hf))
theorem rank_get {S : List Fl} {f : Fl} (hf : f ∈ S) : (names S)[rank S f]? = some (nmB f.nm) := by
  have h := rank_lt hf
  rw [← names_len] at h
  rw [List.getElem?_eq_getElem h]
  exact congrArg some (List.getElem_idxOf h)
theorem at_rank {S : List Fl} (hnd : (S.map (·.nm)).Nodup) {k : Nat} {x : List UInt8} (hx : (names S)[k]? = some x) : ∃ f ∈ S, nmB f.nm = x ∧ rank S f = k := by
  have hm := (names_perm S).mem_iff.1 (List.mem_of_getElem? hx)
  obtain ⟨f, hf, he⟩ := List.mem_map.1 hm
  refine ⟨f, hf, he, ?_⟩
  have h1 := rank_get hf
  rw [he] at h1
  have h2 := (List.getElem?_eq_some_iff.1 h1)
  have h3 := (List.getElem?_eq_some_iff.1 hx)
  exact (List.getElem_inj (names_nd hnd)).1 (h2.2.trans h3.2.symm)
theorem same_nm {S : List Fl} (hnd : (S.map (·.nm)).Nodup) {f g : Fl} (hf : f ∈ S) (hg : g ∈ S) (h : f.nm = g.nm) : f = g := by
  obtain ⟨i, hi⟩ := List.getElem?_of_mem hf
  obtain ⟨j, hj⟩ := List.getElem?_of_mem hg
  have e1 : (S.map (·.nm))[i]? = some f.nm := by simp [hi]
  have e2 : (S.map (·.nm))[j]? = some g.nm := by simp [hj]
  have h3 := (List.getElem?_eq_some_iff.1 e1)
  have h4 := (List.getElem?_eq_some_iff.1 e2)
  have := (List.getElem_inj hnd).1 (h3.2.trans (h.trans h4.2.symm))
  subst this
  rw [hi] at hj
  injection hj
theorem getS_map {h : Fl → Fl} (hh : ∀ f, (h f).nm = f.nm) : ∀ {S : List Fl} {f : Fl}, (S.map (·.nm)).Nodup → f ∈ S → getS (S.map h) f.nm = some (h f)
  | g :: S, f, hnd, hf => by
    simp only [List.map_cons, getS, hh]
    rcases List.mem_cons.1 hf with rfl | hf'
    · rw [if_pos rfl]
    · simp only [List.map_cons, List.nodup_cons, List.mem_map, not_exists, not_and] at hnd
      rw [if_neg fun e => hnd.1 f hf' e.symm]
      exact getS_map hh hnd.2 hf'
theorem putS_map {h : Fl → Fl} (hh : ∀ f, (h f).nm = f.nm) : ∀ {S : List Fl} {f g : Fl}, (S.map (·.nm)).Nodup → f ∈ S → g.nm = f.nm → putS (S.map h) g = S.map fun x => if x.nm = f.nm then g else h x
  | y :: S, f, g, hnd, hf, he => by
    simp only [List.map_cons, List.nodup_cons, List.mem_map, not_exists, not_and] at hnd
    simp only [List.map_cons, putS, hh, he]
    rcases List.mem_cons.1 hf with rfl | hf'
    · rw [if_pos rfl, if_pos rfl]
      congr 1
      exact List.map_congr_left fun x hx => by rw [if_neg fun e => hnd.1 x hx e]
    · rw [if_neg fun e => hnd.1 f hf' e.symm, if_neg fun e => hnd.1 f hf' e.symm]
      congr 1
      exact putS_map hh hnd.2 hf' he
theorem crashK_step {S : List Fl} (hnd : (S.map (·.nm)).Nodup) {draw : Int} {f : Fl} (hf : f ∈ S) : getS (crashK S draw (rank S f)) f.nm = some f ∧ putS (crashK S draw (rank S f)) (crash1 draw (rank S f) f) = crashK S draw (rank S f + 1) := by
  have hh : ∀ k (x : Fl), (if rank S x < k then crash1 draw (rank S x) x else x).nm = x.nm := fun k x => by split <;> rfl
  constructor
  · rw [crashK, getS_map (hh _) hnd hf]
    simp
  · rw [crashK, putS_map (g := crash1 draw (rank S f) f) (hh _) hnd hf rfl, crashK]
    refine List.map_congr_left fun x hx => ?_
    by_cases h : x.nm = f.nm
    · obtain rfl := same_nm hnd hx hf h
      simp
    · rw [if_neg h]
      have : rank S x ≠ rank S f := fun e => h (by
        have h1 := rank_get hx
        have h2 := rank_get hf
        rw [e] at h1
        rw [h1] at h2
        injection h2 with h2
        exact nmB_inj h2)
      by_cases hl : rank S x < rank S f
      · rw [if_pos hl, if_pos (by omega)]
      · rw [if_neg hl, if_neg (by omega)]
theorem crashK_zero (S : List Fl) (draw : Int) : crashK S draw 0 = S := by simp [crashK]
theorem crashK_all (S : List Fl) (draw : Int) : crashK S draw S.length = crashS S draw := List.map_congr_left fun f hf => by rw [if_pos (rank_lt hf)]

theorem laycut_fn {B b room m : Nat} {fs : List Fv} {F : List Res} {nm : ByteArray} {f : Fv} {fa : Option Addr} {fc k la : Nat} {w0 w : World} (hok : OkF room fs) (hf : getF fs nm = some f) (hfv : f.v = .slice fa f.d.length fc) (hk : k ≤ f.d.length) (hla : la ≤ k)
    (hL : Sep Tryz.prog B w0 w (dkRes b room (tot fs) (some m) fs ++ F)) (hB : B ≤ w.heap.size) :
    Fn Tryz.prog 40 #[ptr b, .string nm, .agg #[.slice fa k k, .int .i64 (la : Int)]] w fun r w' => DkS B w0 w' b room (putS (fs.map Fv.fl) ⟨nm, f.d.take k, la⟩) F := by
  have hsh := OkF.shapes hL
  obtain ⟨hl1, hl2⟩ := len_le hok hf
  have hfn : f.nm = nm := by obtain ⟨_, _, _, h, _⟩ := getF_some hf; exact h
  have h1 := hok.nm f (getF_mem hf)
  rw [hfn] at h1
  have ho := oldN_some hf
  obtain ⟨q1, q2, _⟩ := cutRow hfv hk (dk_row hL (getF_mem hf))
  have hL2 := lay_prep (g := ⟨nm, .slice fa k k, f.d.take k, la⟩) ((dk_take hf hL).says (R' := Fv.row ⟨nm, .slice fa k k, f.d.take k, la⟩) (by
    have : (f.d.take k).length = k := by rw [List.length_take]; omega
    simpa [Fv.row, Res.holds, this] using q1) q2)
  refine (lay_fn (mo := some m) ⟨nm, .slice fa k k, f.d.take k, la⟩ (by dsimp only; omega) hok.nd (fun h => by cases h) hsh rfl (by omega) (by simp only [List.length_take]; omega) hL2 hB).mono fun r w ⟨m', hL, hB⟩ => ?_
  have h3 := OkF.put hok (g := ⟨nm, .slice fa k k, f.d.take k, la⟩) (by simp only [List.length_take]; omega) h1 (by have := hok.tot; simp only [List.length_take, ho]; omega) (.inl (by simp [hf]))
  have := DkS.mk' (mo := some m') h3 (fun h => by cases h) rfl hL hB
  rw [putF_fl] at this
  exact this
set_option maxHeartbeats 4000000 in
theorem crash_fn {B b room : Nat} {S : List Fl} {F : List Res} (draw : Int) (hdraw : draw ≤ 9223372036854775807) {w0 w : World} (hD : DkS B w0 w b room S F) :
    Fn Tryz.prog 17 #[ptr b, .int .i64 draw] w fun r w' => DkS B w0 w' b room (crashS S draw) F := by
  have hnd : (S.map (·.nm)).Nodup := by
    obtain ⟨⟨mo, fs, rfl, hok, _⟩, _⟩ := hD
    have := hok.nd
    rw [List.map_map]
    exact this
  have hlen : S.length ≤ 256 := by
    obtain ⟨⟨mo, fs, rfl, hok, _⟩, _⟩ := hD
    have := hok.len
    simpa using this
  refine Fn.mk Tryz.func17 rfl (by kernel_rfl) Tryz.ntmps17 rfl (by rw [Tryz.results17]) ?_
  refine RunR ?_
  refine (list_fn hD).mono fun r w hD => ?_
  obtain ⟨ra, rc, rfl⟩ := (show SlN w 1 r _ _ from hD.rest.rowN (i := 0) rfl).shape
  conv => whnf
  refine RunR ?_
  refine V.loop (α := Nat) (fun k => [(0, ptr b), (1, .int .i64 draw), (12, .slice ra S.length rc), (13, .int .i64 (S.length : Int)), (14, .int .i64 (k : Int))])
    (fun k w' => k ≤ S.length ∧ DkS B w0 w' b room (crashK S draw k) (.row 9 1 (.slice ra S.length rc) S.length ((names S).map encStr) :: F))
    (fun k => S.length - k) 0 ⟨rfl, rfl, rfl, rfl, rfl, trivial⟩ ⟨by omega, by rw [crashK_zero]; exact hD⟩ ?_
  clear hD
  rintro k w ⟨hk, hD⟩
  dsimp only at *
  by_cases hlt : k < S.length
  case neg =>
    refine RunR ?_
    obtain rfl : k = S.length := by omega
    rw [crashK_all] at hD
    exact hD.tl
  obtain ⟨x, hx⟩ : ∃ x, (names S)[k]? = some x := ⟨_, List.getElem?_eq_getElem (by rw [names_len]; exact hlt)⟩
  obtain ⟨f, hf, rfl, hrk⟩ := at_rank hnd hx
  obtain ⟨hget, hput⟩ := crashK_step (draw := draw) hnd hf
  rw [hrk] at hget hput
  obtain ⟨rb, ro, rfl, hrow⟩ := SlN.addr (show SlN w 1 (.slice ra S.length rc) S.length ((names S).map encStr) from hD.rest.rowN (i := 0) rfl) (by omega)
  obtain ⟨⟨mo, fs, hfs, hok, hmo, hL⟩, hB⟩ := hD
  have hst := stays_le (draw := draw) (i := k) (f := f)
  obtain ⟨g, hg, hgf⟩ : ∃ g, getF fs f.nm = some g ∧ g.fl = f := by
    rw [← hfs, getF_fl] at hget
    simpa using hget
  subst hgf
  obtain ⟨m, rfl⟩ := mo_some hmo hg
  obtain ⟨ga, gc, hgv⟩ := dk_shape hL (getF_mem hg)
  have hgla := hok.la g (getF_mem hg)
  obtain ⟨hl1, hl2⟩ := len_le hok hg
  have hgn := hok.nm g (getF_mem hg)
  obtain ⟨q1, q2, ha0, hc0, hz0⟩ := cutRow hgv (Nat.le_refl _) (dk_row hL (getF_mem hg))
  have hsg := strGood (s := g.nm) (by omega)
  have hfile : fileV fs g.fl.nm = .agg #[.slice ga g.d.length gc, .int .i64 (g.la : Int)] := by rw [fileV, hg]; simp only [Fv.val, hgv]
  simp only [Fv.fl] at hst hfile hg hput hx
  repeat (first | (refine RunH ?_; intro w hL hB; try clear w) | (refine Both.mk ?_ ?_ <;> conv => whnf) | fail)
  intro o1 ho1
  conv => whnf
  refine Ld.row1 ttOk hrow (k := k) tl9 rfl (by rw [List.getElem?_map, hx]; rfl) (by omega) ?_
  rw [encStr_nm]
  conv => whnf
  repeat (first | (refine RunH ?_; intro w hL hB; try clear w) | (refine Both.mk ?_ ?_ <;> conv => whnf) | fail)
  refine Rv.file hL 1 rfl hok.nd hsg ?_
  rw [hfile]
  conv => whnf
  obtain ⟨n0, hn0⟩ : ∃ n0, n0 = g.d.length - g.la + 1 := ⟨_, rfl⟩
  obtain ⟨A, hA⟩ : ∃ A, A = (max 0 draw).toNat := ⟨_, rfl⟩
  have hst' : stays draw k ⟨g.nm, g.d, g.la⟩ = g.la + (A % n0 + k % n0) % n0 := by rw [stays, hA, hn0]
  have m1 := Nat.mod_lt A (show 0 < n0 by omega)
  have m2 := Nat.mod_lt k (show 0 < n0 by omega)
  have m3 := Nat.mod_lt (A % n0 + k % n0) (show 0 < n0 by omega)
  repeat (first | (refine RunK ?_; intro w hL hB; try clear w) | (refine V.treeA ttOk hL (.q 0 (.q 1 (.q 2 (.q 3 (.q 4 (.q 5 (.q 6 (.q 7 (.q 8 (.q 9 (.q 10 (.q 11 (.q 12 (.q 13 .nil)))))))))))))) mixed (by decide +kernel) ?_; replace hL := hL.drew; conv => whnf) | (refine V.tailA ttOk mixed (by decide +kernel) ?_; replace hL := hL.drew; conv => whnf) | (refine Both.mk ?_ ?_ <;> conv => whnf) | (refine Nw.sep hL hB (fun b6 w hL hB hb6 => ?_); conv => whnf) | (refine Rem.at A n0 (by omega) (by omega) (by omega) ?_; conv => whnf) | (refine Rem.at k n0 rfl (by omega) (by omega) ?_; conv => whnf) | (refine Rem.at (A % n0 + k % n0) n0 (by omega) (by omega) (by omega) ?_; conv => whnf) | fail)
  obtain ⟨T, hT⟩ : ∃ T, T = g.la + (A % n0 + k % n0) % n0 := ⟨_, rfl⟩
  rw [show ((g.la : Int) + (((A % n0 + k % n0) % n0 : Nat) : Int)) = (T : Int) by omega]
  have hTl : T ≤ g.d.length := by omega
  have fin : ∀ {w : World} {F : List Res}, Sep Tryz.prog B w0 w (dkRes b room (tot fs) (some m) fs ++ F) → B ≤ w.heap.size → Fn Tryz.prog 40 #[ptr b, .string g.nm, .agg #[.slice ga T T, .int .i64 (T : Int)]] w fun r w' => DkS B w0 w' b room (crashK S draw (k + 1)) F := fun hL hB => by
    have := laycut_fn hok hg hgv hTl (Nat.le_refl _) hL hB
    rw [hfs] at this
    rw [crash1, hst', ← hT] at hput
    rw [hput] at this
    exact this
  cases ga with
  | none =>
    intro n6 c6 p1 p2
    obtain rfl : T = n6 := by omega
    obtain rfl : T = c6 := by omega
    conv => whnf
    repeat (first | (refine RunH ?_; intro w hL hB; try clear w) | (refine Both.mk ?_ ?_ <;> conv => whnf) | fail)
    refine (fin (F := _ :: _ :: F) (hL.perm List.perm_middle.symm) hB).mono fun r w hD => ?_
    conv => whnf
    refine RunR ?_
    exact ⟨k + 1, ⟨rfl, rfl, rfl, rfl, vint (by push_cast; omega), trivial⟩, ⟨by omega, hD.tl⟩, (by first | omega | (dsimp only; omega))⟩
  | some ad =>
    obtain ⟨gb, go, gs⟩ := ad
    obtain ⟨z1, z2⟩ := ha0 _ rfl
    dsimp only at z1 z2
    subst z1; subst z2
    conv => whnf
    intro n6 c6 p1 p2
    obtain rfl : T = n6 := by omega
    obtain rfl : T = c6 := by omega
    conv => whnf
    repeat (first | (refine RunH ?_; intro w hL hB; try clear w) | (refine Both.mk ?_ ?_ <;> conv => whnf) | fail)
    refine (fin (F := _ :: _ :: F) (hL.perm List.perm_middle.symm) hB).mono fun r w hD => ?_
    conv => whnf
    refine RunR ?_
    exact ⟨k + 1, ⟨rfl, rfl, rfl, rfl, vint (by push_cast; omega), trivial⟩, ⟨by omega, hD.tl⟩, (by first | omega | (dsimp only; omega))⟩
end Go.Proofs.YtjafamiaahabgaaGreatDoor
namespace Go.Proofs.YtjafamiaahabgaaGreatDoor
open Go.RowKit
open Go.Maps (Keyed)
set_option linter.unusedVariables false
set_option linter.unusedSimpArgs false
set_option maxRecDepth 100000

theorem DkS.open {B : Nat} {w0 w : World} {b room : Nat} {S : List Fl} {F : List Res} (h : DkS B w0 w b room S F) : ∃ dL, Sep Tryz.prog B w0 w (F ++ dL) ∧ B ≤ w.heap.size ∧ ∀ {w' : World} {F' : List Res}, Sep Tryz.prog B w0 w' (F' ++ dL) → B ≤ w'.heap.size → DkS B w0 w' b room S F' := by
  obtain ⟨⟨mo, fs, h1, h2, h3, hL⟩, hB⟩ := h
  exact ⟨_, hL.perm List.perm_append_comm, hB, fun hL hB => ⟨⟨mo, fs, h1, h2, h3, hL.perm List.perm_append_comm⟩, hB⟩⟩
theorem crash_one (f : Fl) (draw : Int) : crashS [f] draw = [crash1 draw 0 f] := by
  have h := rank_lt (S := [f]) (f := f) (by simp)
  have : rank [f] f = 0 := by simp at h; exact h
  simp [crashS, this]
def nmA : ByteArray := ⟨#[97]⟩
theorem Sep.roSl {P : Program} {B : Nat} {w0 w : World} {L : List Res} (h : Sep P B w0 w L) {i : Nat} {v : Value} {xs : List Value} (hi : L[i]? = some (.ro v xs)) : Sl w v xs := (show Res.holds P w (.ro v xs) from h.at hi).1
theorem bv_len1 {l : List UInt8} : ∀ u ∈ bv l, (cellsL u).length = 1 := by
  intro u hu
  obtain ⟨x, _, rfl⟩ := List.mem_map.1 hu
  rfl
theorem bv_flat : ∀ l : List UInt8, (bv l).flatMap cellsL = bv l
  | [] => rfl
  | x :: l => by
    have ih := bv_flat l
    simp only [bv, List.map_cons, List.flatMap_cons] at ih ⊢
    rw [ih]; rfl
section
variable {B : Nat} {w0 w : World} {L : List Res} (hL : Sep Tryz.prog B w0 w L)
include hL
/-- '[]byte("..")': a row of bytes, made and taken as it is -/
theorem Rv.lit {K : Value → World → Prop} {ps : Array (Nat × Value)} (l : List UInt8) (hps : ps = ((List.range' 0 l.length).zip (bv l)).toArray) (hl : l.length ≤ 1000) (hB : B ≤ w.heap.size)
    (hk : ∀ b w', Sep Tryz.prog B w0 w' (.row 5 1 (.slice (some ⟨b, 0, none⟩) l.length l.length) l.length (bv l) :: L) → B ≤ w'.heap.size → K (.slice (some ⟨b, 0, none⟩) l.length l.length) w') :
    Rv Tryz.prog (Instr.buildSlice 23 l.length ps) w K := by
  refine Rv.buildS (len := l.length) (vs := bv l) ttOk hL tl23 tl5 hps (bv_length l) bv_len1 (by omega) (by omega) hB fun bo w hL hB => ?_
  rw [bv_flat] at hL
  exact hk bo w hL hB
end
theorem Br.beq {a b : Bool} {A B : Prop} (h : a = b) (k : A) : Br (a == b) A B := Br.yes (by simp [h]) k
theorem app_new {room n : Nat} {nm : ByteArray} (h : 1 ≤ nm.size ∧ nm.size ≤ 64) (hn : n ≤ room) : appE room [] nm n = 0 := by
  rw [appE, if_neg (fun h' => h' h), if_neg]
  simp [totS]; omega
theorem appS_new {room : Nat} {nm : ByteArray} {xs : List UInt8} (h : 1 ≤ nm.size ∧ nm.size ≤ 64) (hn : xs.length ≤ room) : appS room [] nm xs = [⟨nm, xs, 0⟩] := by
  rw [appS, app_new h hn]; rfl
theorem app_one {room n la : Nat} {nm : ByteArray} {d : List UInt8} (h : 1 ≤ nm.size ∧ nm.size ≤ 64) (hn : d.length + n ≤ room) : appE room [⟨nm, d, la⟩] nm n = 0 := by
  rw [appE, if_neg (fun h' => h' h), if_neg]
  simp [totS, getS]; omega
theorem appS_one {room la : Nat} {nm : ByteArray} {d xs : List UInt8} (h : 1 ≤ nm.size ∧ nm.size ≤ 64) (hn : d.length + xs.length ≤ room) : appS room [⟨nm, d, la⟩] nm xs = [⟨nm, d ++ xs, la⟩] := by
  rw [appS, app_one h hn]; simp [appF, getS, putS]
theorem get_one (f : Fl) : getS [f] f.nm = some f := by simp [getS]
theorem sync_one (nm : ByteArray) (d : List UInt8) (la : Nat) : syncS [⟨nm, d, la⟩] nm = [⟨nm, d, d.length⟩] := by simp [syncS, getS, putS]
theorem i64_wf {n : Int} (h : (Lit.int .i64 n).wf = true) : -9223372036854775808 ≤ n ∧ n ≤ 9223372036854775807 := by
  simp only [Lit.wf, IntKind.min, IntKind.max, IntKind.bits, IntKind.signed, Bool.and_eq_true, decide_eq_true_eq] at h
  simp at h; omega
theorem own_shape {w : World} {B : Nat} {e : TypeId} {sz n : Nat} {v : Value} {xs : List Value} (h : w.ownsRow B e sz v n xs) : (v = .slice none 0 0 ∧ n = 0) ∨ ∃ g c, v = .slice (some ⟨g, 0, none⟩) n c ∧ n ≤ c := by
  rcases h.2 with h | ⟨g, cap, cur, rfl, _, _, h1, _⟩
  · exact .inl h
  · exact .inr ⟨g, cap, rfl, h1⟩

/-- a mask keeps any number small -/
theorem Bt.maskI {a b : Int} {K : Int → Prop} (m : Nat) (hm : m < 9223372036854775808) (hb : b = m) (h : ∀ T : Nat, T ≤ m → K (T : Int)) : Bt .and .i64 a b K := by
  subst hb
  refine Bt.mk ?_
  show K (IntKind.i64.wrap ((BitVec.ofInt 64 a &&& BitVec.ofInt 64 (m : Int)).toNat : Int))
  rw [BitVec.toNat_and, ofInt_nat _ m (by omega), wrap_i64n _ (by have := Nat.and_le_right (n := (BitVec.ofInt 64 a).toNat) (m := m); omega)]
  exact h _ Nat.and_le_right
theorem Sep.swl {P : Program} {B : Nat} {w0 w : World} {F X Y : List Res} (h : Sep P B w0 w ((F ++ X) ++ Y)) : Sep P B w0 w ((F ++ Y) ++ X) := by
  refine h.perm ?_
  rw [List.append_assoc, List.append_assoc]
  exact List.perm_append_comm.append_left F
theorem rot_one {nm : ByteArray} {d : List UInt8} {la : Nat} (n : Int) (x : UInt8) : ∃ d', d'.length = d.length ∧ rotS [⟨nm, d, la⟩] nm n x = [⟨nm, d', la⟩] := by
  unfold rotS
  rw [get_one ⟨nm, d, la⟩]
  dsimp only
  split
  · exact ⟨d, rfl, rfl⟩
  · exact ⟨rotL d n.toNat x, by simp [rotL], by simp [putS]⟩
theorem u8_wf {n : Int} (h : (Lit.int .u8 n).wf = true) : ∃ x : UInt8, n = (x.toNat : Int) := by
  simp only [Lit.wf, IntKind.min, IntKind.max, IntKind.bits, IntKind.signed, Bool.and_eq_true, decide_eq_true_eq] at h
  simp at h
  refine ⟨UInt8.ofNat n.toNat, ?_⟩
  have : n.toNat < 256 := by omega
  simp [UInt8.toNat_ofNat', Nat.mod_eq_of_lt this]
  omega
theorem del_one (f : Fl) : delS [f] f.nm = [] := by simp [delS]

end Go.Proofs.YtjafamiaahabgaaGreatDoor
