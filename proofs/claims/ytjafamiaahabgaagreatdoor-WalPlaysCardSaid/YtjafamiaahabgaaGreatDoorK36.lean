/- WalPlays: both logs beside one another; a pair is opened. WalPlays: a step, in both. Nothing is claimed here. -/
import Derived.Test.YtjafamiaahabgaaGreatDoorK32
import Derived.Test.YtjafamiaahabgaaGreatDoorK33
import Derived.Test.YtjafamiaahabgaaGreatDoorK34
import Derived.Test.YtjafamiaahabgaaGreatDoorK35
namespace Go.Proofs.YtjafamiaahabgaaGreatDoor
open Go.RowKit Go.Lib
set_option linter.unusedVariables false
set_option linter.unusedSimpArgs false
set_option maxRecDepth 100000

/-- a state that can be opened and closed again -/
def Opn (B : Nat) (w0 : World) (P : World → List Res → Prop) : Prop := ∀ {w : World} {F : List Res}, P w F → ∃ X, Sep Tryz.prog B w0 w (F ++ X) ∧ B ≤ w.heap.size ∧ ∀ {w' : World} {F' : List Res}, Sep Tryz.prog B w0 w' (F' ++ X) → B ≤ w'.heap.size → P w' F'
/-- two states beside one another, and what else there is -/
structure Bo (B : Nat) (w0 w : World) (PL PR : World → List Res → Prop) (F : List Res) : Prop where
  of : ∃ XL XR, Sep Tryz.prog B w0 w (F ++ (XL ++ XR)) ∧ B ≤ w.heap.size ∧
    (∀ {w' : World} {F' : List Res}, Sep Tryz.prog B w0 w' (F' ++ XL) → B ≤ w'.heap.size → PL w' F') ∧
    (∀ {w' : World} {F' : List Res}, Sep Tryz.prog B w0 w' (F' ++ XR) → B ≤ w'.heap.size → PR w' F')
section
variable {B : Nat} {w0 w : World} {PL PR : World → List Res → Prop} {F F' : List Res}
theorem Bo.sep (h : Bo B w0 w PL PR F) : ∃ G, Sep Tryz.prog B w0 w (F ++ G) ∧ B ≤ w.heap.size ∧ ∀ {w' : World} {F' : List Res}, Sep Tryz.prog B w0 w' (F' ++ G) → B ≤ w'.heap.size → Bo B w0 w' PL PR F' := by
  obtain ⟨dD, dR, hL, hB, c1, c2⟩ := h
  exact ⟨dD ++ dR, hL, hB, fun h1 h2 => ⟨⟨dD, dR, h1, h2, c1, c2⟩⟩⟩
theorem Bo.left (h : Bo B w0 w PL PR F) : ∃ dR, PL w (F ++ dR) ∧ ∀ {PL' : World → List Res → Prop} (_ : Opn B w0 PL') {w' : World} {F' : List Res}, PL' w' (F' ++ dR) → Bo B w0 w' PL' PR F' := by
  obtain ⟨dD, dR, hL, hB, c1, c2⟩ := h
  refine ⟨dR, c1 (hL.perm ?_) hB, fun {PL'} hop {w' F'} hD => ?_⟩
  · rw [List.append_assoc]; exact List.perm_append_comm.append_left F
  · obtain ⟨dL, hL, hB, cl⟩ := hop hD
    refine ⟨⟨dL, dR, hL.perm ?_, hB, cl, c2⟩⟩
    rw [List.append_assoc]; exact List.perm_append_comm.append_left _
theorem Bo.right (h : Bo B w0 w PL PR F) : ∃ dD, PR w (F ++ dD) ∧ ∀ {PR' : World → List Res → Prop} (_ : Opn B w0 PR') {w' : World} {F' : List Res}, PR' w' (F' ++ dD) → Bo B w0 w' PL PR' F' := by
  obtain ⟨dD, dR, hL, hB, c1, c2⟩ := h
  refine ⟨dD, c2 (by rw [List.append_assoc]; exact hL) hB, fun {PR'} hop {w' F'} hD => ?_⟩
  obtain ⟨dL, hL, hB, cl⟩ := hop hD
  exact ⟨⟨dD, dL, by rw [← List.append_assoc]; exact hL, hB, c1, cl⟩⟩
theorem Bo.perm (h : Bo B w0 w PL PR F) (hp : F.Perm F') : Bo B w0 w PL PR F' := by
  obtain ⟨G, hL, hB, cl⟩ := h.sep
  exact cl (hL.perm (hp.append_right _)) hB
theorem Bo.sub (h : Bo B w0 w PL PR F) (hs : F'.Sublist F) : Bo B w0 w PL PR F' := by
  obtain ⟨G, hL, hB, cl⟩ := h.sep
  exact cl (hL.sub (hs.append (.refl _))) hB
end
def DkP (B : Nat) (w0 : World) (d room : Nat) (S : List Fl) : World → List Res → Prop := fun w F => DkS B w0 w d room S F
def RkP (B : Nat) (w0 : World) (k room : Nat) (R : List Fl) : World → List Res → Prop := fun w F => RkS B w0 w k room R F
def LgP (B : Nat) (w0 : World) (d l : Nat) (pre : ByteArray) (room : Nat) (S : List Fl) (G : List Wg) (af : Nat) : World → List Res → Prop := fun w F => LgS B w0 w d l pre room S G af F
def RlP (B : Nat) (w0 : World) (k m : Nat) (pre : ByteArray) (room : Nat) (R : List Fl) (P : List (Nat × List (List UInt8))) (af : Nat) (D : List Nat) : World → List Res → Prop := fun w F => RlS B w0 w k m pre room R P af D F
theorem DkP.o {B : Nat} {w0 : World} {d room : Nat} {S : List Fl} : Opn B w0 (DkP B w0 d room S) := fun h => DkS.open h
theorem RkP.o {B : Nat} {w0 : World} {k room : Nat} {R : List Fl} : Opn B w0 (RkP B w0 k room R) := fun h => RkS.open h
theorem LgP.o {B : Nat} {w0 : World} {d l room : Nat} {pre : ByteArray} {S : List Fl} {G : List Wg} {af : Nat} : Opn B w0 (LgP B w0 d l pre room S G af) := fun h => LgS.opn h
theorem RlP.o {B : Nat} {w0 : World} {k m room : Nat} {pre : ByteArray} {R : List Fl} {P : List (Nat × List (List UInt8))} {af : Nat} {D : List Nat} : Opn B w0 (RlP B w0 k m pre room R P af D) := fun h => RlS.opn h
theorem RlS.disk {B : Nat} {w0 w : World} {k m room : Nat} {pre : ByteArray} {R : List Fl} {P : List (Nat × List (List UInt8))} {af : Nat} {D : List Nat} {F : List Res} (h : RlS B w0 w k m pre room R P af D F) : RkS B w0 w k room R F := by
  obtain ⟨sv, sg, dv, _, hD⟩ := h.of
  exact hD.sub (List.sublist_append_right _ _)
theorem RkS.ndK {B : Nat} {w0 w : World} {b room : Nat} {S : List Fl} {F : List Res} (h : RkS B w0 w b room S F) : NdS S := by
  have h1 := h.srt
  rw [NdS, List.Nodup]
  exact h1.imp fun {a b} hlt he => by
    rw [he] at hlt
    exact List.lt_irrefl _ hlt
/-- a pair -/
structure Pw (B : Nat) (w0 w : World) (d k room p : Nat) (pre : ByteArray) (q : Nat) (F : List Res) : Prop where
  of : ∃ S R G af D l m, R.Perm S ∧ PlW pre S G af D ∧ D.length ≤ q ∧ Bo B w0 w (LgP B w0 d l pre room S G af) (RlP B w0 k m pre room R (G.map Wg.fe) af D) (.blk p [ptr d, ptr k, ptr l, ptr m] 55 :: F)
def logB : ByteArray := ⟨#[108, 111, 103]⟩
theorem logB_ok : 1 ≤ logB.size ∧ logB.size ≤ 55 := by decide
section
variable {B : Nat} {w0 w : World} {d k room p : Nat} {F : List Res}
set_option maxHeartbeats 8000000 in
theorem popenW_fn {lv mv : Value} {S R : List Fl} {q : Nat} (ht : TabW B w0) (hp : R.Perm S) (hq : 256 ≤ q) (hpv : (cellsL lv = [lv] ∧ lv.oneCell' = true) ∧ cellsL mv = [mv] ∧ mv.oneCell' = true)
    (hb : Bo B w0 w (DkP B w0 d room S) (RkP B w0 k room R) (.blk p [ptr d, ptr k, lv, mv] 55 :: F)) :
    Fn Tryz.prog 22 #[ptr p] w fun r w' => r = .bool true ∧ Pw B w0 w' d k room p logB q F := by
  obtain ⟨⟨lv1, lv2⟩, mv1, mv2⟩ := hpv
  obtain ⟨G0, hL, hB, cl⟩ := hb.sep
  clear hb
  refine Fn.mk Tryz.func22 rfl (by kernel_rfl) Tryz.ntmps22 rfl (by rw [Tryz.results22]) ?_
  repeat (first | (refine RunH ?_; intro w hL hB; try clear w) | (refine Both.mk ?_ ?_ <;> conv => whnf) | fail)
  obtain ⟨dR, hD, back⟩ := (cl (F' := _ :: F) hL hB).left
  have hD : DkS B w0 w d room S _ := hD
  have hnd := hD.nd
  have hbig := fun nm f (h : getS S nm = some f) => hD.big h
  have hpl := open_PlW (pre := logB) hnd hbig
  have hSl := hD.lenLe
  obtain ⟨o1, o2, o3⟩ := openG_perm (pre := logB) hnd hp
  clear hL hB cl
  refine (logOpen_fn (pre := logB) logB_ok ht hD).mono fun r w ⟨l, hr, hG⟩ => ?_
  subst hr
  have hl2 := hG.disk.lenLe
  obtain ⟨G0, hL, hB, cl⟩ := (back (F' := _ :: F) (LgP.o (l := l)) hG).sep
  clear hG back hD
  conv => whnf
  repeat (first | (refine RunH ?_; intro w hL hB; try clear w) | (refine Both.mk ?_ ?_ <;> conv => whnf) | fail)
  obtain ⟨dD, hD, back⟩ := (cl (F' := _ :: F) hL hB).right
  clear hL hB cl
  refine (ropen_fn (pre := logB) logB_ok hD).mono fun r w ⟨m, hr, hG⟩ => ?_
  subst hr
  rw [o2, o3] at hG
  obtain ⟨G0, hL, hB, cl⟩ := (back (F' := _ :: F) (RlP.o (m := m)) hG).sep
  clear hG back hD
  conv => whnf
  repeat (first | (refine RunH ?_; intro w hL hB; try clear w) | (refine Both.mk ?_ ?_ <;> conv => whnf) | fail)
  exact ⟨rfl, ⟨_, _, _, _, _, l, m, o1, hpl, by rw [List.length_map]; have := hpl.len; omega, cl (F' := _ :: F) hL hB⟩⟩
end
theorem PlW.ap {pre : ByteArray} {S : List Fl} {G : List Wg} {af room : Nat} {D : List Nat} {x : List UInt8} (h : PlW pre S G af D) :
    PlW pre (apS pre room S G af x) (if apE pre room S G af x = 0 then apG G af x else G) (if apE pre room S G af x = 0 then af + 1 else af) (if apE pre room S G af x = 0 then D ++ [takesW G af] else D) := by
  by_cases h1 : 1048566 < x.length
  · have he : apE pre room S G af x = 5 := by rw [apE, if_pos h1]
    rw [he, apS, if_pos (.inl h1), if_neg (by decide), if_neg (by decide), if_neg (by decide)]
    exact h
  by_cases h2 : 99999999 ≤ af
  · have he : apE pre room S G af x = 6 := by rw [apE, if_neg h1, if_pos h2]
    rw [he, apS, if_pos (.inr h2), if_neg (by decide), if_neg (by decide), if_neg (by decide)]
    exact h
  have he : apE pre room S G af x = appE room S (wnm pre (takesW G af)) (recL af x) := by rw [apE, if_neg h1, if_neg h2]
  rw [he, apS, if_neg (by omega)]
  by_cases h3 : appE room S (wnm pre (takesW G af)) (recL af x) = 0
  · rw [if_pos h3, if_pos h3, if_pos h3]
    exact h.append (by omega) (by omega) h3
  · rw [if_neg h3, if_neg h3, if_neg h3, appS, show (encF (encU af ++ x)).length = recL af x from recW_len _ _, if_neg h3]
    exact h
theorem apE_perm {pre : ByteArray} {S R : List Fl} (hS : NdS S) (hp : R.Perm S) (room : Nat) (G : List Wg) (af : Nat) (x : List UInt8) : apE pre room R G af x = apE pre room S G af x := by
  rw [apE, apE, appE_perm hS hp]
theorem apS_perm {pre : ByteArray} {S R : List Fl} (hS : NdS S) (hp : R.Perm S) (room : Nat) (G : List Wg) (af : Nat) (x : List UInt8) : (apS pre room R G af x).Perm (apS pre room S G af x) := by
  rw [apS, apS]
  split
  · exact hp
  · exact appS_perm hS hp room _ _
section
variable {B : Nat} {w0 w : World} {k m room : Nat} {pre : ByteArray} {R : List Fl} {P : List (Nat × List (List UInt8))} {af : Nat} {D : List Nat} {F : List Res}
theorem rlist_fn (hR : RlS B w0 w k m pre room R P af D F) : Fn Tryz.prog 56 #[ptr k] w fun r w' => RlS B w0 w' k m pre room R P af D (.row 9 1 r R.length (R.map fun f => .string f.nm) :: F) := by
  obtain ⟨sv, sg, dv, h1, hD⟩ := hR.of
  exact (listR_fn hD).mono fun r w hD => ⟨sv, sg, dv, h1, hD.perm List.perm_middle.symm⟩
theorem rboundsL_fn (hR : RlS B w0 w k m pre room R P af D F) : Fn Tryz.prog 60 #[.pointer (some ⟨m, 0, none⟩)] w fun r w' => r = .tuple #[.int .i64 (lowP P af : Nat), .int .i64 (af : Int)] ∧ RlS B w0 w' k m pre room R P af D F := by
  obtain ⟨sv, sg, dv, rfl, hD⟩ := hR.of
  obtain ⟨dL, hL, hB, close⟩ := hD.open
  refine (rbounds_fn sg w (hL.hold _ (.head _)) (hL.rowN (i := 1) rfl)).mono fun r w ⟨hr, hw⟩ => ?_
  exact ⟨hr, ⟨sv, sg, dv, rfl, close (F' := rlR m k pre sv sg af dv D ++ F) (hL.call hB (Turns.of_below hw)) (Nat.le_trans hB hw.size)⟩⟩
theorem rgetL_fn {G : List Wg} (i : Int) (hi : -9223372036854775808 ≤ i ∧ i ≤ 9223372036854775807) (hlen : G.length ≤ 1000000) (hfs : ∀ g ∈ G, g.first ≤ 99999999 ∧ g.size ≤ 1073741824) (hR : RlS B w0 w k m pre room R (G.map Wg.fe) af D F) :
    Fn Tryz.prog 52 #[.pointer (some ⟨m, 0, none⟩), .int .i64 i] w fun r w' => match getW G i with
      | some x => ∃ u, r = .tuple #[u, .int .i64 0] ∧ RlS B w0 w' k m pre room R (G.map Wg.fe) af D (.row 5 1 u x.length (bv x) :: F)
      | none => r = .tuple #[.slice none 0 0, .int .i64 7] ∧ RlS B w0 w' k m pre room R (G.map Wg.fe) af D F := by
  obtain ⟨sv, sg, dv, hP, hD⟩ := hR.of
  obtain ⟨dL, hL, hB, close⟩ := hD.open
  have hsgl : sg.length = G.length := by have := congrArg List.length hP; simpa using this
  have hsf : ∀ s ∈ sg, (s.first ≤ 4000000000 ∧ s.es.length ≤ 4000000000) ∧ ∀ e ∈ s.es, e.d.length ≤ 1073741824 := fun s hs => by
    obtain ⟨j, hj⟩ := List.getElem?_of_mem hs
    have h7 : (sg.map Rg.fe)[j]? = some s.fe := by rw [List.getElem?_map, hj]; rfl
    rw [hP, List.getElem?_map] at h7
    obtain ⟨p, hp, hpq⟩ := Option.map_eq_some_iff.1 h7
    injection hpq with h8 h9
    have h10 := hfs p (List.mem_of_getElem? hp)
    have h11 := lenW_ge p.first p.es
    have h12 : p.size = lenW p.first p.es := rfl
    have h13 : p.es.length = s.es.length := by rw [h9, List.length_map]
    refine ⟨by omega, fun e he => ?_⟩
    have h14 : e.d ∈ p.es := by rw [h9]; exact List.mem_map.2 ⟨e, he, rfl⟩
    have h15 := lenW_mem (n := p.first) h14
    omega
  have hin : ∀ s ∈ sg, ∀ r ∈ s.res, r.holds Tryz.prog w := fun s hs r hr => hL.hold r (List.mem_append_left _ (List.mem_append_left _ (List.mem_cons_of_mem _ (List.mem_cons_of_mem _ (List.mem_cons_of_mem _ (List.mem_flatMap.2 ⟨s, hs, hr⟩))))))
  refine (rget_fn sg i hi (by omega) (fun s hs => (hsf s hs).1) w (hL.hold _ (.head _)) (hL.rowN (i := 1) rfl) (fun s hs => ⟨(show Sl w s.lv (s.es.map En.v) ∧ _ from hin s hs _ (List.mem_cons_self ..)).1, fun e he => ⟨(show Sl w e.v (bv e.d) ∧ _ from hin s hs _ (List.mem_cons_of_mem _ (List.mem_map.2 ⟨e, he, rfl⟩))).1, (hsf s hs).2 e he⟩⟩)).mono fun r w h => ?_
  rw [hP, getP_fe] at h
  cases hg : getW G i with
  | none =>
    rw [hg] at h
    obtain ⟨hr, hw⟩ := h
    exact ⟨hr, ⟨sv, sg, dv, hP, close (F' := rlR m k pre sv sg af dv D ++ F) (hL.call hB (Turns.of_below hw)) (Nat.le_trans hB hw.size)⟩⟩
  | some x =>
    rw [hg] at h
    obtain ⟨u, hr, ho, hw⟩ := h
    exact ⟨u, hr, ⟨sv, sg, dv, hP, close (F' := rlR m k pre sv sg af dv D ++ (.row 5 1 u x.length (bv x) :: F)) ((hL.addRow hB hw ho).perm (by
      show List.Perm (_ :: ((rlR m k pre sv sg af dv D ++ F) ++ dL)) _
      rw [List.append_assoc, List.append_assoc]
      exact List.perm_middle.symm)) (Nat.le_trans hB hw.size)⟩⟩
end
end Go.Proofs.YtjafamiaahabgaaGreatDoor
namespace Go.Proofs.YtjafamiaahabgaaGreatDoor
open Go.RowKit Go.Lib
set_option linter.unusedVariables false
set_option linter.unusedSimpArgs false
set_option maxRecDepth 100000

theorem getW_len {G : List Wg} (hfs : ∀ g ∈ G, g.first ≤ 99999999 ∧ g.size ≤ 1073741824) {i : Int} {x : List UInt8} (h : getW G i = some x) : x.length ≤ 1073741824 := by
  rw [getW] at h
  obtain ⟨g, hg, rfl⟩ := Option.map_eq_some_iff.1 h
  have hgm := List.mem_of_find?_eq_some hg
  rw [List.getD_eq_getElem?_getD]
  cases hx : g.es[(i - g.first).toNat]? with
  | none => exact Nat.zero_le _
  | some y =>
    have h1 := lenW_mem (n := g.first) (List.mem_of_getElem? hx)
    have h2 := (hfs g hgm).2
    have h3 : g.size = lenW g.first g.es := rfl
    show y.length ≤ _
    omega
theorem RkS.nmK {B : Nat} {w0 w : World} {b room : Nat} {S : List Fl} {F : List Res} (h : RkS B w0 w b room S F) : ∀ f ∈ S, f.nm.size ≤ 64 := by
  obtain ⟨L, fs, rfl, hok, _⟩ := h.of
  intro f hf
  obtain ⟨q, hq, rfl⟩ := List.mem_map.1 hf
  exact (hok.ok.nm q hq).2
set_option maxHeartbeats 64000000 in
theorem pdoesW_fn {w0 w : World} {d k room p q : Nat} {F : List Res} (ht : TabW w0.heap.size w0) (hq : 256 ≤ q ∧ q ≤ 100000) (kind n at_ : Int) (bV : Value) (xb : List UInt8) (by_ : UInt8) (hn : -9223372036854775808 ≤ n ∧ n ≤ 9223372036854775807) (hxb : xb.length ≤ 20000) (hs : Sl w0 bV (bv xb))
    (hP : Pw w0.heap.size w0 w d k room p logB q F) :
    Fn Tryz.prog 23 #[ptr p, .agg #[.int .i64 kind, .int .i64 n, .int .i64 at_, bV, .int .u8 (by_.toNat : Int)]] w fun r w' => r = .bool true ∧ Pw w0.heap.size w0 w' d k room p logB (q + 1) F := by
  obtain ⟨va, vc, rfl⟩ := hs.shape
  rw [bv_length] at *
  obtain ⟨S, R, G, af, D, l, m, hp, hpl, hDq, hb⟩ := hP.of
  clear hP
  have p1 : ∀ {L : List Res} (w' : World), Sep Tryz.prog w0.heap.size w0 w' L → Sl w' (.slice va xb.length vc) (bv xb) := fun w' h => h.sl hs rfl
  obtain ⟨c1, hcn, hch⟩ := hpl.ch
  obtain ⟨hnd, hndR, hbig⟩ : NdS S ∧ NdS R ∧ ∀ nm f, getS S nm = some f → f.d.length ≤ 1073741824 := by
    obtain ⟨dR, hG, _⟩ := hb.left
    obtain ⟨dD, hG2, _⟩ := hb.right
    have hG : LgS _ _ _ _ _ _ _ _ _ _ _ := hG
    have hG2 : RlS _ _ _ _ _ _ _ _ _ _ _ _ := hG2
    exact ⟨hG.disk.nd, hG2.disk.ndK, fun nm f h => hG.disk.big h⟩
  have hSl : S.length ≤ 256 := by
    obtain ⟨dR, hG, _⟩ := hb.left
    have hG : LgS _ _ _ _ _ _ _ _ _ _ _ := hG
    exact hG.disk.lenLe
  have hGl : G.length ≤ 256 := Nat.le_trans hpl.len hSl
  have hfs := hpl.small hbig
  have haf := hpl.afl
  have hDn := hpl.dn
  have hgp := getS_perm hnd hp
  have hfile : ∀ g, G.getLast? = some g → (fileD R (wnm logB g.first)).length = g.size := fun g hg => by
    obtain ⟨f, hf, hl⟩ := hpl.file g (List.mem_of_getLast? hg)
    rw [fileD, hgp, hf]; exact hl
  obtain ⟨G0, hL, hB, cl⟩ := hb.sep
  clear hb
  refine Fn.mk Tryz.func23 rfl (by kernel_rfl) Tryz.ntmps23 rfl (by rw [Tryz.results23]) ?_
  repeat (first | (refine RunH ?_; intro w hL hB; try clear w) | (refine Both.mk ?_ ?_ <;> conv => whnf) | fail)
  (refine Nw.sep hL hB (fun b3 w hL hB hb3 => ?_); conv => whnf)
  replace hL : Sep Tryz.prog w0.heap.size w0 w (.blk b3 [.int .i64 kind, .int .i64 n, .int .i64 at_, .slice va xb.length vc, .int .u8 (by_.toNat : Int)] 58 :: .blk p [ptr d, ptr k, ptr l, ptr m] 55 :: F ++ G0) := hL
  by_cases h1 : kind = 1
  · subst h1
    repeat (first | (refine RunH ?_; intro w hL hB; try clear w) | (refine Both.mk ?_ ?_ <;> conv => whnf) | fail)
    refine (roomy_fn _ xb (by omega) (p1 _ hL) hL hB).mono fun r w ⟨g, c, hr, hgc, hL, hB, _⟩ => ?_
    subst hr
    conv => whnf
    repeat (first | (refine RunH ?_; intro w hL hB; try clear w) | (refine Both.mk ?_ ?_ <;> conv => whnf) | fail)
    refine V.tree ttOk (fun x => Blk x p [ptr d, ptr k, ptr l, ptr m] 55 ∧ Blk x b3 [.int .i64 1, .int .i64 n, .int .i64 at_, .slice va xb.length vc, .int .u8 (by_.toNat : Int)] 58) (.q 0 (.q 1 (.q 2 (.q 3 (.q 4 (.q 5 (.q 6 (.q 7 (.q 8 (.alt 9 (.q 10 (.q 11 (.q 12 (.q 13 (.q 14 .nil))))) .stop)))))))))) mixed (by decide +kernel) ⟨hL.drew.blk (i := 2) rfl, hL.drew.blk (i := 1) rfl⟩ ?_
    replace hL := hL.drew
    conv => whnf
    repeat' (first | (refine RunH ?_; intro w hL hB; try clear w) | (refine Br.dec (fun hbr => ?_) (fun hbr => ?_) <;> conv => whnf) | (refine Br.mk (fun hbr => ?_) (fun hbr => ?_) <;> conv => whnf) | (refine Both.mk ?_ ?_ <;> conv => whnf) | (refine Lq.of_class (fun x hx => Ld.blk ttOk rfl rfl hx.1 rfl rfl) ?_; conv => whnf) | (refine Lq.of_class (fun x hx => Ld.blk ttOk rfl rfl hx.2 rfl rfl) ?_; conv => whnf) | fail)
    intro n3 c3 q1 q2
    obtain rfl : n3 = xb.length := by omega
    conv => whnf
    repeat (first | (refine RunH ?_; intro w hL hB; try clear w) | (refine Both.mk ?_ ?_ <;> conv => whnf) | fail)
    obtain ⟨dR, hG, back⟩ := (cl (F' := _ :: _ :: _ :: F) hL hB).left
    have hG : LgS _ _ _ _ _ _ _ _ _ _ _ := hG
    refine (logAppend_fn _ xb (by omega) logB_ok ht (by omega) hfs hch.last (fun w' h => ?_) hG).mono fun r w ⟨hr, hG⟩ => ?_
    · have h1 : Sl w' (.slice (some ⟨g, 0, none⟩) (xb.length + 1) c) (bv (xb ++ [171])) := RowC.sl (show RowC w' 5 _ (xb ++ [(171 : UInt8)]).length (bv (xb ++ [171])) from h.at (i := 0) rfl)
      have := h1.take (k := xb.length) (by simp) (c' := c3) (by omega) (by omega)
      rwa [← bv_take, List.take_left' rfl] at this
    subst hr
    obtain ⟨G0, hL, hB, cl⟩ := (back (F' := _ :: _ :: _ :: F) (LgP.o (l := l)) hG).sep
    clear hG back
    refine And.intro ⟨hL.blk (i := 2) rfl, hL.blk (i := 1) rfl⟩ ?_
    conv => whnf
    repeat (first | (refine RunH ?_; intro w hL hB; try clear w) | (refine Both.mk ?_ ?_ <;> conv => whnf) | fail)
    refine V.tree ttOk (fun x => Blk x p [ptr d, ptr k, ptr l, ptr m] 55 ∧ Blk x b3 [.int .i64 1, .int .i64 n, .int .i64 at_, .slice va xb.length vc, .int .u8 (by_.toNat : Int)] 58) (.q 0 (.q 1 (.q 2 (.q 3 (.q 4 (.q 5 (.alt 6 (.q 7 (.q 8 (.q 9 (.q 10 (.q 11 .nil))))) .stop))))))) mixed (by decide +kernel) ⟨hL.drew.blk (i := 2) rfl, hL.drew.blk (i := 1) rfl⟩ ?_
    replace hL := hL.drew
    conv => whnf
    repeat' (first | (refine RunH ?_; intro w hL hB; try clear w) | (refine Br.dec (fun hbr => ?_) (fun hbr => ?_) <;> conv => whnf) | (refine Br.mk (fun hbr => ?_) (fun hbr => ?_) <;> conv => whnf) | (refine Both.mk ?_ ?_ <;> conv => whnf) | (refine Lq.of_class (fun x hx => Ld.blk ttOk rfl rfl hx.1 rfl rfl) ?_; conv => whnf) | (refine Lq.of_class (fun x hx => Ld.blk ttOk rfl rfl hx.2 rfl rfl) ?_; conv => whnf) | fail)
    obtain ⟨dD, hG, back⟩ := (cl (F' := _ :: _ :: _ :: F) hL hB).right
    have hG : RlS _ _ _ _ _ _ _ _ _ _ _ _ := hG
    refine (rappend_fn _ xb (by omega) logB_ok (by omega) (by omega) hfs (by omega) hfile (fun w' h => p1 _ h) hG).mono fun r w ⟨R', hR', hr, hG⟩ => ?_
    rw [apE_perm hnd hp] at hr hG
    subst hr
    obtain ⟨G0, hL, hB, cl⟩ := (back (F' := _ :: _ :: _ :: F) (RlP.o (m := m)) hG).sep
    clear hG back
    refine And.intro ⟨hL.blk (i := 2) rfl, hL.blk (i := 1) rfl⟩ ?_
    conv => whnf
    repeat (first | (refine RunH ?_; intro w hL hB; try clear w) | (refine Both.mk ?_ ?_ <;> conv => whnf) | fail)
    refine (stands_fn _ _ xb [] _ (RowC.sl (show RowC w 5 _ (xb ++ [(171 : UInt8)]).length (bv (xb ++ [171])) from hL.at (i := 0) rfl)) (p1 _ hL) (by omega)).mono fun r w ⟨hr, hw⟩ => ?_
    subst hr
    replace hL := hL.call hB (Turns.of_below hw)
    replace hB := Nat.le_trans hB hw.size
    conv => whnf
    repeat (first | (refine RunH ?_; intro w hL hB; try clear w) | (refine Both.mk ?_ ?_ <;> conv => whnf) | fail)
    refine (spoil_fn _ (xb ++ [171]) (by simp; omega) hL hB).mono fun r w ⟨hL, hB⟩ => ?_
    conv => whnf
    repeat (first | (refine RunH ?_; intro w hL hB; try clear w) | (refine Both.mk ?_ ?_ <;> conv => whnf) | fail)
    refine ⟨rfl, ⟨_, R', _, _, _, l, m, hR'.trans (apS_perm hnd hp room G af xb), hpl.ap (room := room) (x := xb), ?_, (cl (F' := _ :: _ :: F) hL hB).sub (List.sublist_cons_self _ _)⟩⟩
    split
    · rw [List.length_append, List.length_singleton]; omega
    · omega
  by_cases h2 : kind = 2
  · subst h2
    repeat (first | (refine RunH ?_; intro w hL hB; try clear w) | (refine Both.mk ?_ ?_ <;> conv => whnf) | fail)
    refine V.tree ttOk (fun x => Blk x p [ptr d, ptr k, ptr l, ptr m] 55 ∧ Blk x b3 [.int .i64 2, .int .i64 n, .int .i64 at_, .slice va xb.length vc, .int .u8 (by_.toNat : Int)] 58) (.q 0 (.q 1 (.q 2 (.q 3 (.q 5 (.q 6 (.q 7 (.q 8 (.alt 4 (.alt 9 (.q 10 (.q 11 .nil)) .stop) .stop))))))))) mixed (by decide +kernel) ⟨hL.drew.blk (i := 1) rfl, hL.drew.blk (i := 0) rfl⟩ ?_
    replace hL := hL.drew
    conv => whnf
    repeat' (first | (refine RunH ?_; intro w hL hB; try clear w) | (refine Br.dec (fun hbr => ?_) (fun hbr => ?_) <;> conv => whnf) | (refine Br.mk (fun hbr => ?_) (fun hbr => ?_) <;> conv => whnf) | (refine Both.mk ?_ ?_ <;> conv => whnf) | (refine Lq.of_class (fun x hx => Ld.blk ttOk rfl rfl hx.1 rfl rfl) ?_; conv => whnf) | (refine Lq.of_class (fun x hx => Ld.blk ttOk rfl rfl hx.2 rfl rfl) ?_; conv => whnf) | fail)
    obtain ⟨dR, hG, back⟩ := (cl (F' := _ :: _ :: F) hL hB).left
    have hG : LgS _ _ _ _ _ _ _ _ _ _ _ := hG
    refine (logSync_fn logB_ok ht (by omega) (fun g hg => (hfs g hg).1) hG).mono fun r w ⟨hr, hG⟩ => ?_
    subst hr
    obtain ⟨G0, hL, hB, cl⟩ := (back (F' := _ :: _ :: F) (LgP.o (l := l)) hG).sep
    clear hG back
    refine And.intro ⟨hL.blk (i := 1) rfl, hL.blk (i := 0) rfl⟩ ?_
    conv => whnf
    repeat (first | (refine RunH ?_; intro w hL hB; try clear w) | (refine Both.mk ?_ ?_ <;> conv => whnf) | fail)
    obtain ⟨dD, hG, back⟩ := (cl (F' := _ :: _ :: F) hL hB).right
    have hG : RlS _ _ _ _ _ _ _ _ _ _ _ _ := hG
    refine (rsync_fn logB_ok (by omega) hDn hG).mono fun r w ⟨hr, hG⟩ => ?_
    subst hr
    have hndS := ((cl (F' := _ :: _ :: F) hL hB).left)
    have hndR2 := hG.disk.ndK
    obtain ⟨dR, hG3, _⟩ := hndS
    have hG3 : LgS _ _ _ _ _ _ _ _ _ _ _ := hG3
    have hndS2 := hG3.disk.nd
    clear hG3
    obtain ⟨G0, hL, hB, cl⟩ := (back (F' := _ :: _ :: F) (RlP.o (m := m)) hG).sep
    clear hG back
    refine And.intro ⟨hL.blk (i := 1) rfl, hL.blk (i := 0) rfl⟩ ?_
    conv => whnf
    repeat (first | (refine RunH ?_; intro w hL hB; try clear w) | (refine Both.mk ?_ ?_ <;> conv => whnf) | fail)
    have hfe : (G.map Wg.clean).map Wg.fe = G.map Wg.fe := by rw [List.map_map]; rfl
    rw [← hfe] at cl
    exact ⟨rfl, ⟨_, _, _, _, _, l, m, perm_get hndR2 hndS2 (hpl.sync_get hgp), hpl.sync, Nat.zero_le _, (cl (F' := _ :: _ :: F) hL hB).sub (List.sublist_cons_self _ _)⟩⟩
  by_cases h3 : kind = 3
  · subst h3
    repeat (first | (refine RunH ?_; intro w hL hB; try clear w) | (refine Both.mk ?_ ?_ <;> conv => whnf) | fail)
    refine V.tree ttOk (fun x => Blk x p [ptr d, ptr k, ptr l, ptr m] 55 ∧ Blk x b3 [.int .i64 3, .int .i64 n, .int .i64 at_, .slice va xb.length vc, .int .u8 (by_.toNat : Int)] 58) (.q 0 (.q 1 (.q 2 (.q 3 (.q 4 (.q 5 (.alt 6 (.q 7 (.q 8 (.q 9 (.q 10 (.q 11 .nil))))) .stop))))))) mixed (by decide +kernel) ⟨hL.drew.blk (i := 1) rfl, hL.drew.blk (i := 0) rfl⟩ ?_
    replace hL := hL.drew
    conv => whnf
    repeat' (first | (refine RunH ?_; intro w hL hB; try clear w) | (refine Br.dec (fun hbr => ?_) (fun hbr => ?_) <;> conv => whnf) | (refine Br.mk (fun hbr => ?_) (fun hbr => ?_) <;> conv => whnf) | (refine Both.mk ?_ ?_ <;> conv => whnf) | (refine Lq.of_class (fun x hx => Ld.blk ttOk rfl rfl hx.1 rfl rfl) ?_; conv => whnf) | (refine Lq.of_class (fun x hx => Ld.blk ttOk rfl rfl hx.2 rfl rfl) ?_; conv => whnf) | fail)
    obtain ⟨dR, hG, back⟩ := (cl (F' := _ :: _ :: F) hL hB).left
    have hG : LgS _ _ _ _ _ _ _ _ _ _ _ := hG
    refine (logGet2_fn n hn (by omega) hfs hch.apart hG).mono fun r w h => ?_
    have hgl := fun x => getW_len hfs (i := n) (x := x)
    cases hgw : getW G n with
    | none =>
      rw [hgw] at h
      obtain ⟨hr, hG⟩ := h
      subst hr
      obtain ⟨G0, hL, hB, cl⟩ := (back (F' := _ :: _ :: F) (LgP.o (l := l)) hG).sep
      clear hG back
      refine And.intro ⟨hL.blk (i := 1) rfl, hL.blk (i := 0) rfl⟩ ?_
      conv => whnf
      repeat (first | (refine RunH ?_; intro w hL hB; try clear w) | (refine Both.mk ?_ ?_ <;> conv => whnf) | fail)
      refine V.tree ttOk (fun x => Blk x p [ptr d, ptr k, ptr l, ptr m] 55 ∧ Blk x b3 [.int .i64 3, .int .i64 n, .int .i64 at_, .slice va xb.length vc, .int .u8 (by_.toNat : Int)] 58) (.q 0 (.q 1 (.q 2 (.q 3 (.q 4 (.q 5 (.alt 6 (.q 7 (.q 8 (.q 9 (.q 10 (.q 11 .nil))))) .stop))))))) mixed (by decide +kernel) ⟨hL.drew.blk (i := 1) rfl, hL.drew.blk (i := 0) rfl⟩ ?_
      replace hL := hL.drew
      conv => whnf
      repeat' (first | (refine RunH ?_; intro w hL hB; try clear w) | (refine Br.dec (fun hbr => ?_) (fun hbr => ?_) <;> conv => whnf) | (refine Br.mk (fun hbr => ?_) (fun hbr => ?_) <;> conv => whnf) | (refine Both.mk ?_ ?_ <;> conv => whnf) | (refine Lq.of_class (fun x hx => Ld.blk ttOk rfl rfl hx.1 rfl rfl) ?_; conv => whnf) | (refine Lq.of_class (fun x hx => Ld.blk ttOk rfl rfl hx.2 rfl rfl) ?_; conv => whnf) | fail)
      obtain ⟨dD, hG, back⟩ := (cl (F' := _ :: _ :: F) hL hB).right
      have hG : RlS _ _ _ _ _ _ _ _ _ _ _ _ := hG
      refine (rgetL_fn n hn (by omega) hfs hG).mono fun r w h => ?_
      rw [hgw] at h
      obtain ⟨hr, hG⟩ := h
      subst hr
      obtain ⟨G0, hL, hB, cl⟩ := (back (F' := _ :: _ :: F) (RlP.o (m := m)) hG).sep
      clear hG back
      refine And.intro ⟨hL.blk (i := 1) rfl, hL.blk (i := 0) rfl⟩ ?_
      conv => whnf
      repeat (first | (refine RunH ?_; intro w hL hB; try clear w) | (refine Both.mk ?_ ?_ <;> conv => whnf) | fail)
      refine (same_fn _ _ [] [] _ (Sl.nil _) (Sl.nil _)).mono fun r w ⟨hr, hw⟩ => ?_
      subst hr
      replace hL := hL.call hB (Turns.of_below hw)
      replace hB := Nat.le_trans hB hw.size
      rw [decide_eq_true rfl]
      conv => whnf
      repeat (first | (refine RunH ?_; intro w hL hB; try clear w) | (refine Both.mk ?_ ?_ <;> conv => whnf) | fail)
      refine (spoil_fn _ [] (by simp) (hL.nilC 5) hB).mono fun r w ⟨hL, hB⟩ => ?_
      conv => whnf
      repeat (first | (refine RunH ?_; intro w hL hB; try clear w) | (refine Both.mk ?_ ?_ <;> conv => whnf) | fail)
      exact ⟨rfl, ⟨_, _, _, _, _, l, m, hp, hpl, by omega, (cl (F' := _ :: _ :: F) hL hB).sub (List.sublist_cons_self _ _)⟩⟩
    | some x =>
      have hxl := hgl x hgw
      rw [hgw] at h
      obtain ⟨u, hr, hG⟩ := h
      subst hr
      obtain ⟨G0, hL, hB, cl⟩ := (back (F' := _ :: _ :: _ :: F) (LgP.o (l := l)) hG).sep
      clear hG back
      obtain ⟨ua, uc, rfl⟩ := (show SlN w 1 u _ _ from hL.rowN (i := 0) rfl).shape
      refine And.intro ⟨hL.blk (i := 2) rfl, hL.blk (i := 1) rfl⟩ ?_
      conv => whnf
      repeat (first | (refine RunH ?_; intro w hL hB; try clear w) | (refine Both.mk ?_ ?_ <;> conv => whnf) | fail)
      refine V.tree ttOk (fun x => Blk x p [ptr d, ptr k, ptr l, ptr m] 55 ∧ Blk x b3 [.int .i64 3, .int .i64 n, .int .i64 at_, .slice va xb.length vc, .int .u8 (by_.toNat : Int)] 58) (.q 0 (.q 1 (.q 2 (.q 3 (.q 4 (.q 5 (.alt 6 (.q 7 (.q 8 (.q 9 (.q 10 (.q 11 .nil))))) .stop))))))) mixed (by decide +kernel) ⟨hL.drew.blk (i := 2) rfl, hL.drew.blk (i := 1) rfl⟩ ?_
      replace hL := hL.drew
      conv => whnf
      repeat' (first | (refine RunH ?_; intro w hL hB; try clear w) | (refine Br.dec (fun hbr => ?_) (fun hbr => ?_) <;> conv => whnf) | (refine Br.mk (fun hbr => ?_) (fun hbr => ?_) <;> conv => whnf) | (refine Both.mk ?_ ?_ <;> conv => whnf) | (refine Lq.of_class (fun x hx => Ld.blk ttOk rfl rfl hx.1 rfl rfl) ?_; conv => whnf) | (refine Lq.of_class (fun x hx => Ld.blk ttOk rfl rfl hx.2 rfl rfl) ?_; conv => whnf) | fail)
      obtain ⟨dD, hG, back⟩ := (cl (F' := _ :: _ :: _ :: F) hL hB).right
      have hG : RlS _ _ _ _ _ _ _ _ _ _ _ _ := hG
      refine (rgetL_fn n hn (by omega) hfs hG).mono fun r w h => ?_
      rw [hgw] at h
      obtain ⟨u2, hr, hG⟩ := h
      subst hr
      obtain ⟨G0, hL, hB, cl⟩ := (back (F' := _ :: _ :: _ :: _ :: F) (RlP.o (m := m)) hG).sep
      clear hG back
      obtain ⟨ua2, uc2, rfl⟩ := (show SlN w 1 u2 _ _ from hL.rowN (i := 0) rfl).shape
      refine And.intro ⟨hL.blk (i := 3) rfl, hL.blk (i := 2) rfl⟩ ?_
      conv => whnf
      repeat (first | (refine RunH ?_; intro w hL hB; try clear w) | (refine Both.mk ?_ ?_ <;> conv => whnf) | fail)
      refine (same_fn _ _ x x _ (hL.row (i := 1) rfl) (hL.row (i := 0) rfl)).mono fun r w ⟨hr, hw⟩ => ?_
      subst hr
      replace hL := hL.call hB (Turns.of_below hw)
      replace hB := Nat.le_trans hB hw.size
      rw [decide_eq_true rfl]
      conv => whnf
      repeat (first | (refine RunH ?_; intro w hL hB; try clear w) | (refine Both.mk ?_ ?_ <;> conv => whnf) | fail)
      have hL3 := hL.perm (List.Perm.swap _ _ _)
      replace hL3 := hL3.says (R' := .rc 5 (.slice ua x.length uc) x.length (bv x)) (RowC.of_own (hL3.ownR (i := 0) rfl)) rfl
      refine (spoil_fn _ x (by omega) hL3 hB).mono fun r w ⟨hL, hB⟩ => ?_
      conv => whnf
      repeat (first | (refine RunH ?_; intro w hL hB; try clear w) | (refine Both.mk ?_ ?_ <;> conv => whnf) | fail)
      exact ⟨rfl, ⟨_, _, _, _, _, l, m, hp, hpl, by omega, (cl (F' := _ :: _ :: _ :: F) hL hB).sub ((List.sublist_cons_self _ _).trans (List.sublist_cons_self _ _))⟩⟩
  by_cases h4 : kind = 4
  · subst h4
    repeat (first | (refine RunH ?_; intro w hL hB; try clear w) | (refine Both.mk ?_ ?_ <;> conv => whnf) | fail)
    refine V.tree ttOk (fun x => Blk x p [ptr d, ptr k, ptr l, ptr m] 55 ∧ Blk x b3 [.int .i64 4, .int .i64 n, .int .i64 at_, .slice va xb.length vc, .int .u8 (by_.toNat : Int)] 58) (.q 0 (.q 1 (.q 2 (.q 3 (.q 4 (.q 5 (.q 7 (.q 8 (.q 9 (.q 10 (.q 11 (.q 12 (.alt 6 (.alt 13 (.q 14 (.q 15 .nil)) .stop) .stop))))))))))))) mixed (by decide +kernel) ⟨hL.drew.blk (i := 1) rfl, hL.drew.blk (i := 0) rfl⟩ ?_
    replace hL := hL.drew
    conv => whnf
    repeat' (first | (refine RunH ?_; intro w hL hB; try clear w) | (refine Br.dec (fun hbr => ?_) (fun hbr => ?_) <;> conv => whnf) | (refine Br.mk (fun hbr => ?_) (fun hbr => ?_) <;> conv => whnf) | (refine Both.mk ?_ ?_ <;> conv => whnf) | (refine Lq.of_class (fun x hx => Ld.blk ttOk rfl rfl hx.1 rfl rfl) ?_; conv => whnf) | (refine Lq.of_class (fun x hx => Ld.blk ttOk rfl rfl hx.2 rfl rfl) ?_; conv => whnf) | fail)
    obtain ⟨dR, hG, back⟩ := (cl (F' := _ :: _ :: F) hL hB).left
    have hG : LgS _ _ _ _ _ _ _ _ _ _ _ := hG
    refine (logCut_fn n logB_ok ht (by omega) (by omega) hfs hG).mono fun r w ⟨hr, hG⟩ => ?_
    subst hr
    have hndS2 := hG.disk.nd
    obtain ⟨G0, hL, hB, cl⟩ := (back (F' := _ :: _ :: F) (LgP.o (l := l)) hG).sep
    clear hG back
    refine And.intro ⟨hL.blk (i := 1) rfl, hL.blk (i := 0) rfl⟩ ?_
    conv => whnf
    repeat (first | (refine RunH ?_; intro w hL hB; try clear w) | (refine Both.mk ?_ ?_ <;> conv => whnf) | fail)
    obtain ⟨dD, hG, back⟩ := (cl (F' := _ :: _ :: F) hL hB).right
    have hG : RlS _ _ _ _ _ _ _ _ _ _ _ _ := hG
    refine (rcut_fn n logB_ok (by omega) hfs (by omega) hpl.recs hG).mono fun r w ⟨hr, hG⟩ => ?_
    subst hr
    have hndR2 := hG.disk.ndK
    obtain ⟨G0, hL, hB, cl⟩ := (back (F' := _ :: _ :: F) (RlP.o (m := m)) hG).sep
    clear hG back
    refine And.intro ⟨hL.blk (i := 1) rfl, hL.blk (i := 0) rfl⟩ ?_
    by_cases hmay : mayW G af n = true
    · simp only [if_pos hmay] at cl hndS2 hndR2 ⊢
      conv => whnf
      repeat (first | (refine RunH ?_; intro w hL hB; try clear w) | (refine Both.mk ?_ ?_ <;> conv => whnf) | fail)
      obtain ⟨iq, rfl⟩ : ∃ iq : Nat, n = (iq : Int) := ⟨n.toNat, by have h1 : (lowW G af : Int) ≤ n ∧ n ≤ (af : Int) := (by simpa [mayW] using hmay); omega⟩
      have h1 : (lowW G af : Int) ≤ (iq : Int) ∧ (iq : Int) ≤ (af : Int) := by simpa [mayW] using hmay
      rw [Int.toNat_natCast] at cl hndR2
      obtain ⟨c2, c3, c4⟩ := hpl.cut hnd hndR hgp iq (by omega)
      rw [c3] at cl
      exact ⟨rfl, ⟨_, _, _, _, _, l, m, perm_get hndR2 hndS2 c4, c2, by omega, (cl (F' := _ :: _ :: F) hL hB).sub (List.sublist_cons_self _ _)⟩⟩
    · simp only [if_neg hmay] at cl hndS2 hndR2 ⊢
      conv => whnf
      repeat (first | (refine RunH ?_; intro w hL hB; try clear w) | (refine Both.mk ?_ ?_ <;> conv => whnf) | fail)
      exact ⟨rfl, ⟨_, _, _, _, _, l, m, hp, hpl, by omega, (cl (F' := _ :: _ :: F) hL hB).sub (List.sublist_cons_self _ _)⟩⟩
  by_cases h5 : kind = 5
  · subst h5
    repeat (first | (refine RunH ?_; intro w hL hB; try clear w) | (refine Both.mk ?_ ?_ <;> conv => whnf) | fail)
    refine V.tree ttOk (fun x => Blk x p [ptr d, ptr k, ptr l, ptr m] 55 ∧ Blk x b3 [.int .i64 5, .int .i64 n, .int .i64 at_, .slice va xb.length vc, .int .u8 (by_.toNat : Int)] 58) (.q 0 (.q 1 (.q 2 (.q 3 (.q 4 (.q 5 (.q 7 (.q 8 (.q 9 (.q 10 (.q 11 (.q 12 (.alt 6 (.alt 13 (.q 14 (.q 15 .nil)) .stop) .stop))))))))))))) mixed (by decide +kernel) ⟨hL.drew.blk (i := 1) rfl, hL.drew.blk (i := 0) rfl⟩ ?_
    replace hL := hL.drew
    conv => whnf
    repeat' (first | (refine RunH ?_; intro w hL hB; try clear w) | (refine Br.dec (fun hbr => ?_) (fun hbr => ?_) <;> conv => whnf) | (refine Br.mk (fun hbr => ?_) (fun hbr => ?_) <;> conv => whnf) | (refine Both.mk ?_ ?_ <;> conv => whnf) | (refine Lq.of_class (fun x hx => Ld.blk ttOk rfl rfl hx.1 rfl rfl) ?_; conv => whnf) | (refine Lq.of_class (fun x hx => Ld.blk ttOk rfl rfl hx.2 rfl rfl) ?_; conv => whnf) | fail)
    obtain ⟨dR, hG, back⟩ := (cl (F' := _ :: _ :: F) hL hB).left
    have hG : LgS _ _ _ _ _ _ _ _ _ _ _ := hG
    refine (logDrop_fn n logB_ok ht (by omega) hfs hG).mono fun r w ⟨hr, hG⟩ => ?_
    subst hr
    have hndS2 := hG.disk.nd
    obtain ⟨G0, hL, hB, cl⟩ := (back (F' := _ :: _ :: F) (LgP.o (l := l)) hG).sep
    clear hG back
    refine And.intro ⟨hL.blk (i := 1) rfl, hL.blk (i := 0) rfl⟩ ?_
    conv => whnf
    repeat (first | (refine RunH ?_; intro w hL hB; try clear w) | (refine Both.mk ?_ ?_ <;> conv => whnf) | fail)
    obtain ⟨dD, hG, back⟩ := (cl (F' := _ :: _ :: F) hL hB).right
    have hG : RlS _ _ _ _ _ _ _ _ _ _ _ _ := hG
    refine (rdrop_fn n logB_ok (by omega) hfs (by omega) hch hG).mono fun r w ⟨hr, hG⟩ => ?_
    subst hr
    have hndR2 := hG.disk.ndK
    obtain ⟨G0, hL, hB, cl⟩ := (back (F' := _ :: _ :: F) (RlP.o (m := m)) hG).sep
    clear hG back
    refine And.intro ⟨hL.blk (i := 1) rfl, hL.blk (i := 0) rfl⟩ ?_
    by_cases hmay : mayW G af n = true
    · simp only [if_pos hmay] at cl hndS2 hndR2 ⊢
      conv => whnf
      repeat (first | (refine RunH ?_; intro w hL hB; try clear w) | (refine Both.mk ?_ ?_ <;> conv => whnf) | fail)
      obtain ⟨c2, c3⟩ := dropR_get logB n af G hnd hndR hgp
      rw [c2] at cl
      exact ⟨rfl, ⟨_, _, _, _, _, l, m, perm_get hndR2 hndS2 c3, hpl.drop hnd n, by omega, (cl (F' := _ :: _ :: F) hL hB).sub (List.sublist_cons_self _ _)⟩⟩
    · simp only [if_neg hmay] at cl hndS2 hndR2 ⊢
      conv => whnf
      repeat (first | (refine RunH ?_; intro w hL hB; try clear w) | (refine Both.mk ?_ ?_ <;> conv => whnf) | fail)
      exact ⟨rfl, ⟨_, _, _, _, _, l, m, hp, hpl, by omega, (cl (F' := _ :: _ :: F) hL hB).sub (List.sublist_cons_self _ _)⟩⟩
  by_cases h6 : kind = 6
  · subst h6
    repeat (first | (refine RunH ?_; intro w hL hB; try clear w) | (refine Both.mk ?_ ?_ <;> conv => whnf) | fail)
    obtain ⟨dR, hG, back⟩ := (cl (F' := _ :: _ :: F) hL hB).left
    have hG : LgS _ _ _ _ _ _ _ _ _ _ _ := hG
    refine (crash_fn n hn.2 hG.disk).mono fun r w hG => ?_
    obtain ⟨G0, hL, hB, cl⟩ := (back (F' := _ :: _ :: F) DkP.o hG).sep
    clear hG back
    conv => whnf
    repeat (first | (refine RunH ?_; intro w hL hB; try clear w) | (refine Both.mk ?_ ?_ <;> conv => whnf) | fail)

    obtain ⟨dD, hG, back⟩ := (cl (F' := _ :: _ :: F) hL hB).right
    have hG : RlS _ _ _ _ _ _ _ _ _ _ _ _ := hG
    refine (crashR_fn n hn hG.disk).mono fun r w hG => ?_
    obtain ⟨G0, hL, hB, cl⟩ := (back (F' := _ :: _ :: F) RkP.o hG).sep
    clear hG back
    conv => whnf
    repeat (first | (refine RunH ?_; intro w hL hB; try clear w) | (refine Both.mk ?_ ?_ <;> conv => whnf) | fail)
    refine (popenW_fn (lv := ptr l) (mv := ptr m) (q := q + 1) ht (crashS_perm hp n) (by omega) ⟨⟨rfl, rfl⟩, ⟨rfl, rfl⟩⟩ ((cl (F' := _ :: _ :: F) hL hB).sub (List.sublist_cons_self _ _))).mono fun r w ⟨hr, hP⟩ => ?_
    subst hr
    obtain ⟨_, _, _, _, _, _, _, _, _, _, hb⟩ := hP.of
    obtain ⟨G0, hL, hB, _⟩ := hb.sep
    clear hb
    conv => whnf
    repeat (first | (refine RunH ?_; intro w hL hB; try clear w) | (refine Both.mk ?_ ?_ <;> conv => whnf) | fail)
    exact ⟨rfl, hP⟩
  by_cases h8 : kind = 8
  · subst h8
    repeat (first | (refine RunH ?_; intro w hL hB; try clear w) | (refine Both.mk ?_ ?_ <;> conv => whnf) | fail)
    obtain ⟨dD, hG, back⟩ := (cl (F' := _ :: _ :: F) hL hB).right
    have hG : RlS _ _ _ _ _ _ _ _ _ _ _ _ := hG
    have hnmR := hG.disk.nmK
    refine (rlist_fn hG).mono fun r w hG => ?_
    obtain ⟨G0, hL, hB, cl⟩ := (back (F' := _ :: _ :: _ :: F) (RlP.o (m := m)) hG).sep
    clear hG back
    obtain ⟨na, nc, rfl⟩ := (show SlN w 1 r R.length _ from hL.rowN (i := 0) rfl).shape
    conv => whnf
    by_cases hR0 : R.length = 0
    · have hR0' : (R.length : Int) = 0 := by omega
      repeat (first | (refine RunH ?_; intro w hL hB; try clear w) | (refine Both.mk ?_ ?_ <;> conv => whnf) | fail)
      exact ⟨rfl, ⟨_, _, _, _, _, l, m, hp, hpl, by omega, (cl (F' := _ :: _ :: _ :: F) hL hB).sub ((List.sublist_cons_self _ _).trans (List.sublist_cons_self _ _))⟩⟩
    have hR0' : ¬ (R.length : Int) = 0 := by omega
    by_cases hn0 : n < 0
    · repeat (first | (refine RunH ?_; intro w hL hB; try clear w) | (refine Both.mk ?_ ?_ <;> conv => whnf) | fail)
      exact ⟨rfl, ⟨_, _, _, _, _, l, m, hp, hpl, by omega, (cl (F' := _ :: _ :: _ :: F) hL hB).sub ((List.sublist_cons_self _ _).trans (List.sublist_cons_self _ _))⟩⟩
    obtain ⟨nn, rfl⟩ : ∃ nn : Nat, n = (nn : Int) := ⟨n.toNat, by omega⟩
    have hml := Nat.mod_lt nn (show 0 < R.length by omega)
    obtain ⟨ng, no, rfl, _⟩ := (show SlN w 1 _ R.length _ from hL.rowN (i := 0) rfl).addr (by omega)
    have hgn : (R.map fun f => Value.string f.nm)[nn % R.length]? = some (.string (R[nn % R.length]).nm) := by rw [List.getElem?_map, List.getElem?_eq_getElem hml]; rfl
    have hnz := hnmR _ (List.getElem_mem hml)
    generalize (R[nn % R.length]).nm = nm at *
    repeat (first | (refine RunH ?_; intro w hL hB; try clear w) | (refine Both.mk ?_ ?_ <;> conv => whnf) | (refine Rem.at nn R.length rfl rfl (by omega) ?_; conv => whnf) | fail)
    intro o1 ho1
    conv => whnf
    refine Ld.row1 ttOk (hL.rowN (i := 0) rfl).rowOf tl9 rfl hgn (by omega) ?_
    conv => whnf
    repeat (first | (refine RunH ?_; intro w hL hB; try clear w) | (refine Both.mk ?_ ?_ <;> conv => whnf) | fail)
    obtain ⟨dR, hG, back⟩ := (cl (F' := _ :: _ :: _ :: F) hL hB).left
    have hG : LgS _ _ _ _ _ _ _ _ _ _ _ := hG
    refine (rot_fn nm (by omega) _ by_ hG.disk).mono fun r w ⟨hr, hG⟩ => ?_
    subst hr
    obtain ⟨G0, hL, hB, cl⟩ := (back (F' := _ :: _ :: _ :: F) DkP.o hG).sep
    clear hG back
    conv => whnf
    repeat (first | (refine RunH ?_; intro w hL hB; try clear w) | (refine Both.mk ?_ ?_ <;> conv => whnf) | fail)

    obtain ⟨dD, hG, back⟩ := (cl (F' := _ :: _ :: _ :: F) hL hB).right
    have hG : RlS _ _ _ _ _ _ _ _ _ _ _ _ := hG
    refine (rotR_fn nm _ by_ hG.disk).mono fun r w ⟨hr, hG⟩ => ?_
    subst hr
    obtain ⟨G0, hL, hB, cl⟩ := (back (F' := _ :: _ :: _ :: F) RkP.o hG).sep
    clear hG back
    conv => whnf
    repeat (first | (refine RunH ?_; intro w hL hB; try clear w) | (refine Both.mk ?_ ?_ <;> conv => whnf) | fail)
    refine (popenW_fn (lv := ptr l) (mv := ptr m) (q := q + 1) ht (rotS_perm hnd hp nm _ by_) (by omega) ⟨⟨rfl, rfl⟩, ⟨rfl, rfl⟩⟩ ((cl (F' := _ :: _ :: _ :: F) hL hB).sub ((List.sublist_cons_self _ _).trans (List.sublist_cons_self _ _)))).mono fun r w ⟨hr, hP⟩ => ?_
    subst hr
    obtain ⟨_, _, _, _, _, _, _, _, _, _, hb⟩ := hP.of
    obtain ⟨G0, hL, hB, _⟩ := hb.sep
    clear hb
    conv => whnf
    repeat (first | (refine RunH ?_; intro w hL hB; try clear w) | (refine Both.mk ?_ ?_ <;> conv => whnf) | fail)
    exact ⟨rfl, hP⟩
  by_cases h9 : kind = 9
  · subst h9
    repeat (first | (refine RunH ?_; intro w hL hB; try clear w) | (refine Both.mk ?_ ?_ <;> conv => whnf) | fail)
    obtain ⟨dD, hG, back⟩ := (cl (F' := _ :: _ :: F) hL hB).right
    have hG : RlS _ _ _ _ _ _ _ _ _ _ _ _ := hG
    have hnmR := hG.disk.nmK
    refine (rlist_fn hG).mono fun r w hG => ?_
    obtain ⟨G0, hL, hB, cl⟩ := (back (F' := _ :: _ :: _ :: F) (RlP.o (m := m)) hG).sep
    clear hG back
    obtain ⟨na, nc, rfl⟩ := (show SlN w 1 r R.length _ from hL.rowN (i := 0) rfl).shape
    conv => whnf
    by_cases hR0 : R.length = 0
    · have hR0' : (R.length : Int) = 0 := by omega
      repeat (first | (refine RunH ?_; intro w hL hB; try clear w) | (refine Both.mk ?_ ?_ <;> conv => whnf) | fail)
      exact ⟨rfl, ⟨_, _, _, _, _, l, m, hp, hpl, by omega, (cl (F' := _ :: _ :: _ :: F) hL hB).sub ((List.sublist_cons_self _ _).trans (List.sublist_cons_self _ _))⟩⟩
    have hR0' : ¬ (R.length : Int) = 0 := by omega
    by_cases hn0 : n < 0
    · repeat (first | (refine RunH ?_; intro w hL hB; try clear w) | (refine Both.mk ?_ ?_ <;> conv => whnf) | fail)
      exact ⟨rfl, ⟨_, _, _, _, _, l, m, hp, hpl, by omega, (cl (F' := _ :: _ :: _ :: F) hL hB).sub ((List.sublist_cons_self _ _).trans (List.sublist_cons_self _ _))⟩⟩
    obtain ⟨nn, rfl⟩ : ∃ nn : Nat, n = (nn : Int) := ⟨n.toNat, by omega⟩
    have hml := Nat.mod_lt nn (show 0 < R.length by omega)
    obtain ⟨ng, no, rfl, _⟩ := (show SlN w 1 _ R.length _ from hL.rowN (i := 0) rfl).addr (by omega)
    have hgn : (R.map fun f => Value.string f.nm)[nn % R.length]? = some (.string (R[nn % R.length]).nm) := by rw [List.getElem?_map, List.getElem?_eq_getElem hml]; rfl
    have hnz := hnmR _ (List.getElem_mem hml)
    generalize (R[nn % R.length]).nm = nm at *
    repeat (first | (refine RunH ?_; intro w hL hB; try clear w) | (refine Both.mk ?_ ?_ <;> conv => whnf) | (refine Rem.at nn R.length rfl rfl (by omega) ?_; conv => whnf) | fail)
    intro o1 ho1
    conv => whnf
    refine Ld.row1 ttOk (hL.rowN (i := 0) rfl).rowOf tl9 rfl hgn (by omega) ?_
    conv => whnf
    repeat (first | (refine RunH ?_; intro w hL hB; try clear w) | (refine Both.mk ?_ ?_ <;> conv => whnf) | fail)
    obtain ⟨dR, hG, back⟩ := (cl (F' := _ :: _ :: _ :: F) hL hB).left
    have hG : LgS _ _ _ _ _ _ _ _ _ _ _ := hG
    refine (cut_fn nm (by omega) _ hG.disk).mono fun r w ⟨hr, hG⟩ => ?_
    subst hr
    obtain ⟨G0, hL, hB, cl⟩ := (back (F' := _ :: _ :: _ :: F) DkP.o hG).sep
    clear hG back
    conv => whnf
    repeat (first | (refine RunH ?_; intro w hL hB; try clear w) | (refine Both.mk ?_ ?_ <;> conv => whnf) | fail)

    obtain ⟨dD, hG, back⟩ := (cl (F' := _ :: _ :: _ :: F) hL hB).right
    have hG : RlS _ _ _ _ _ _ _ _ _ _ _ _ := hG
    refine (cutR_fn nm _ hG.disk).mono fun r w ⟨hr, hG⟩ => ?_
    subst hr
    obtain ⟨G0, hL, hB, cl⟩ := (back (F' := _ :: _ :: _ :: F) RkP.o hG).sep
    clear hG back
    conv => whnf
    repeat (first | (refine RunH ?_; intro w hL hB; try clear w) | (refine Both.mk ?_ ?_ <;> conv => whnf) | fail)
    refine (popenW_fn (lv := ptr l) (mv := ptr m) (q := q + 1) ht (cutS_perm hnd hp nm _) (by omega) ⟨⟨rfl, rfl⟩, ⟨rfl, rfl⟩⟩ ((cl (F' := _ :: _ :: _ :: F) hL hB).sub ((List.sublist_cons_self _ _).trans (List.sublist_cons_self _ _)))).mono fun r w ⟨hr, hP⟩ => ?_
    subst hr
    obtain ⟨_, _, _, _, _, _, _, _, _, _, hb⟩ := hP.of
    obtain ⟨G0, hL, hB, _⟩ := hb.sep
    clear hb
    conv => whnf
    repeat (first | (refine RunH ?_; intro w hL hB; try clear w) | (refine Both.mk ?_ ?_ <;> conv => whnf) | fail)
    exact ⟨rfl, hP⟩
  repeat (first | (refine RunH ?_; intro w hL hB; try clear w) | (refine Both.mk ?_ ?_ <;> conv => whnf) | fail)
  obtain ⟨dR, hG, back⟩ := (cl (F' := _ :: _ :: F) hL hB).left
  have hG : LgS _ _ _ _ _ _ _ _ _ _ _ := hG
  obtain ⟨G0, hL, hB, cl⟩ := (back (F' := _ :: _ :: F) DkP.o hG.disk).sep
  clear hG back
  obtain ⟨dD, hG, back⟩ := (cl (F' := _ :: _ :: F) hL hB).right
  have hG : RlS _ _ _ _ _ _ _ _ _ _ _ _ := hG
  obtain ⟨G0, hL, hB, cl⟩ := (back (F' := _ :: _ :: F) RkP.o hG.disk).sep
  clear hG back
  refine (popenW_fn (lv := ptr l) (mv := ptr m) (q := q + 1) ht hp (by omega) ⟨⟨rfl, rfl⟩, ⟨rfl, rfl⟩⟩ ((cl (F' := _ :: _ :: F) hL hB).sub (List.sublist_cons_self _ _))).mono fun r w ⟨hr, hP⟩ => ?_
  subst hr
  obtain ⟨_, _, _, _, _, _, _, _, _, _, hb⟩ := hP.of
  obtain ⟨G0, hL, hB, _⟩ := hb.sep
  clear hb
  conv => whnf
  repeat (first | (refine RunH ?_; intro w hL hB; try clear w) | (refine Both.mk ?_ ?_ <;> conv => whnf) | fail)
  exact ⟨rfl, hP⟩
end Go.Proofs.YtjafamiaahabgaaGreatDoor
