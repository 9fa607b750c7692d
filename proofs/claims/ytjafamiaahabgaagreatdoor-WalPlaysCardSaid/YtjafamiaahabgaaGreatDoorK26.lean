/- garnerref10: what a log is in memory; Bounds, size. wal: Append. Nothing is claimed here. -/
import Derived.Test.YtjafamiaahabgaaGreatDoorK16
import Derived.Test.YtjafamiaahabgaaGreatDoorK18
import Derived.Test.YtjafamiaahabgaaGreatDoorK20
import Derived.Test.YtjafamiaahabgaaGreatDoorK25
namespace Go.Proofs.YtjafamiaahabgaaGreatDoor
open Go.RowKit Go.Lib
set_option linter.unusedVariables false
set_option linter.unusedSimpArgs false
set_option maxRecDepth 100000

set_option maxHeartbeats 2000000 in
theorem sizeW_fn {B b room : Nat} {R : List Fl} {F : List Res} (nm : ByteArray) {w0 w : World} (hD : RkS B w0 w b room R F) :
    Fn Tryz.prog 102 #[ptr b, .string nm] w fun r w' => r = .tuple #[.int .i64 ((fileD R nm).length : Nat), .bool (getS R nm).isSome] ∧ RkS B w0 w' b room R F := by
  obtain ⟨⟨L, fs, rfl, hok, hL⟩, hB⟩ := hD
  refine Fn.mk Tryz.func102 rfl (by kernel_rfl) Tryz.ntmps102 rfl (by rw [Tryz.results102]) ?_
  repeat (first | (refine RunH ?_; intro w hL hB; try clear w) | (refine Both.mk ?_ ?_ <;> conv => whnf) | fail)
  refine (spot_fn nm hok.ok.len hL hB).mono fun r w ⟨A, C, h1, h2, h3, hr, hL, hB⟩ => ?_
  subst hr
  have hat := At.of h1 h2 h3
  clear h1 h2 h3
  have hg := getF_fl fs nm
  cases hd : hdN C nm with
  | false =>
    rw [hat.no hok.srt hd] at hg
    rw [fileD, hg]
    conv => whnf
    repeat (first | (refine RunH ?_; intro w hL hB; try clear w) | (refine Both.mk ?_ ?_ <;> conv => whnf) | fail)
    exact ⟨rfl, RkS.mk' hok hL hB⟩
  | true =>
    obtain ⟨f, C', rfl, hfn, hgn⟩ := hat.yes hd
    rw [hgn] at hg
    rw [fileD, hg]
    obtain rfl := hat.eq
    have hl1 := len1 hok.ok f (by simp)
    have hget : (A ++ f :: C')[A.length]? = some f := by simp
    have hlA : (A ++ f :: C').length = A.length + C'.length + 1 := by simp; omega
    simp only [rkRes, List.cons_append] at hL
    obtain ⟨va, vc, hfv⟩ := rk_shape (X := [_, _]) hL f (by simp)
    obtain ⟨g, gcap, rfl, hgcap⟩ := own_shape0 (hL.ownR (i := 1) rfl) (by omega)
    conv => whnf
    repeat (first | (refine RunH ?_; intro w hL hB; try clear w) | (refine Both.mk ?_ ?_ <;> conv => whnf) | fail)
    intro o1 ho1
    conv => whnf
    refine Ld.rowF ttOk f3_len 1 (hL.rowN (i := 1) rfl).rowOf tl23 rfl hget (by rw [f3, hfv]; rfl) (by omega) ?_
    conv => whnf
    repeat (first | (refine RunH ?_; intro w hL hB; try clear w) | (refine Both.mk ?_ ?_ <;> conv => whnf) | fail)
    exact ⟨rfl, RkS.mk' (L := .slice (some ⟨g, 0, none⟩) (A ++ f :: C').length gcap) hok hL hB⟩
/-- a segment of the reference in memory -/
structure Rg where
  first : Nat
  lv : Value
  es : List En
def Rg.cells (s : Rg) : List Value := [.int .i64 (s.first : Int), s.lv]
theorem Rg.cells_len (s : Rg) : s.cells.length = 2 := rfl
def Rg.res (s : Rg) : List Res := .ro s.lv (s.es.map En.v) :: s.es.map En.res
def Rg.fe (s : Rg) : Nat × List (List UInt8) := (s.first, s.es.map En.d)
def Wg.fe (g : Wg) : Nat × List (List UInt8) := (g.first, g.es)
def rlC (k : Nat) (pre : ByteArray) (sv : Value) (af : Nat) (dv : Value) : List Value := [.pointer (some ⟨k, 0, none⟩), .string pre, sv, .int .i64 (af : Int), dv]
def rlR (m k : Nat) (pre : ByteArray) (sv : Value) (sg : List Rg) (af : Nat) (dv : Value) (D : List Nat) : List Res :=
  .blk m (rlC k pre sv af dv) 128 :: .row 133 2 sv sg.length (sg.flatMap Rg.cells) :: .row 3 1 dv D.length (D.map iN) :: sg.flatMap Rg.res
/-- the reference's log -/
structure RlS (B : Nat) (w0 w : World) (k m : Nat) (pre : ByteArray) (room : Nat) (R : List Fl) (P : List (Nat × List (List UInt8))) (af : Nat) (D : List Nat) (F : List Res) : Prop where
  of : ∃ sv sg dv, sg.map Rg.fe = P ∧ RkS B w0 w k room R (rlR m k pre sv sg af dv D ++ F)
def lowP (P : List (Nat × List (List UInt8))) (af : Nat) : Nat := match P with
  | [] => af
  | p :: _ => p.1
theorem RlS.opn {B : Nat} {w0 w : World} {k m room : Nat} {pre : ByteArray} {R : List Fl} {P : List (Nat × List (List UInt8))} {af : Nat} {D : List Nat} {F : List Res} (h : RlS B w0 w k m pre room R P af D F) :
    ∃ X, Sep Tryz.prog B w0 w (F ++ X) ∧ B ≤ w.heap.size ∧ ∀ {w' : World} {F' : List Res}, Sep Tryz.prog B w0 w' (F' ++ X) → B ≤ w'.heap.size → RlS B w0 w' k m pre room R P af D F' := by
  obtain ⟨sv, sg, dv, h1, hD⟩ := h.of
  obtain ⟨dL, hL, hB, close⟩ := hD.open
  have hp : ∀ F' : List Res, ((rlR m k pre sv sg af dv D ++ F') ++ dL).Perm (F' ++ (rlR m k pre sv sg af dv D ++ dL)) := fun F' => by
    rw [List.append_assoc]; exact List.perm_append_comm_assoc _ _ _
  exact ⟨_, hL.perm (hp F), hB, fun hL hB => ⟨sv, sg, dv, h1, close (hL.perm (hp _).symm) hB⟩⟩
set_option maxHeartbeats 2000000 in
theorem rbounds_fn {k m : Nat} {pre : ByteArray} {sv dv : Value} {af : Nat} (sg : List Rg) (w0 : World) (hC : Blk w0 m (rlC k pre sv af dv) 128) (hS : SlN w0 2 sv sg.length (sg.flatMap Rg.cells)) :
    Fn Tryz.prog 60 #[.pointer (some ⟨m, 0, none⟩)] w0 fun r w' => r = .tuple #[.int .i64 (lowP (sg.map Rg.fe) af : Nat), .int .i64 (af : Int)] ∧ Below w0.heap.size w0 w' := by
  rw [rlC] at hC
  have hL := Sep.start Tryz.prog w0
  have hB := Nat.le_refl w0.heap.size
  have hC2 : ∀ x, Below w0.heap.size w0 x → Blk x m [.pointer (some ⟨k, 0, none⟩), .string pre, sv, .int .i64 (af : Int), dv] 128 := fun x h => hC.below h hC.lt
  have hX2 : ∀ x, Below w0.heap.size w0 x → SlN x 2 sv sg.length (sg.flatMap Rg.cells) := fun x h => hS.below h
  obtain ⟨xa, xc, rfl⟩ := hS.shape
  have hle := hS.le
  cases sg with
  | nil =>
    refine Fn.mk Tryz.func60 rfl (by kernel_rfl) Tryz.ntmps60 rfl (by rw [Tryz.results60]) ?_
    repeat (first | (refine RunH ?_; intro w hL hB; try clear w) | (refine Both.mk ?_ ?_ <;> conv => whnf) | fail)
    refine V.tree ttOk (fun x => Blk x m _ 128) (.q 0 (.q 1 (.q 2 (.q 3 (.q 4 (.q 5 (.q 6 (.q 7 (.q 8 (.q 9 .nil)))))))))) mixed (by decide +kernel) (hC2 _ hL.drew.below) ?_
    replace hL := hL.drew
    conv => whnf
    repeat' (first | (refine RunH ?_; intro w hL hB; try clear w) | (refine Br.dec (fun hbr => ?_) (fun hbr => ?_) <;> conv => whnf) | (refine Br.mk (fun hbr => ?_) (fun hbr => ?_) <;> conv => whnf) | (refine Both.mk ?_ ?_ <;> conv => whnf) | (refine Lq.of_class (fun x hx => Ld.blk ttOk rfl rfl hx rfl rfl) ?_; conv => whnf) | fail)
    exact ⟨rfl, hL.below⟩
  | cons s sg =>
    obtain ⟨g, o, rfl, _⟩ := hS.addr (by simp)
    have hrow : ∀ x, Below w0.heap.size w0 x → Row x g o ((s :: sg).flatMap Rg.cells) := fun x h => (hX2 x h).rowOf
    simp only [List.length_cons] at hle hC2
    refine Fn.mk Tryz.func60 rfl (by kernel_rfl) Tryz.ntmps60 rfl (by rw [Tryz.results60]) ?_
    repeat (first | (refine RunH ?_; intro w hL hB; try clear w) | (refine Both.mk ?_ ?_ <;> conv => whnf) | fail)
    repeat (first | (refine RunH ?_; intro w hL hB; try clear w) | (refine Both.mk ?_ ?_ <;> conv => whnf) | fail)
    refine V.tree ttOk (fun x => Blk x m _ 128 ∧ Row x g o ((s :: sg).flatMap Rg.cells)) (.q 0 (.q 1 (.q 2 (.q 3 (.q 4 (.q 5 (.q 6 (.q 7 (.q 8 (.q 9 (.q 10 (.q 11 (.q 12 .nil))))))))))))) mixed (by decide +kernel) ⟨hC2 _ hL.drew.below, hrow _ hL.drew.below⟩ ?_
    replace hL := hL.drew
    conv => whnf
    repeat' (first | (refine RunH ?_; intro w hL hB; try clear w) | (refine Br.dec (fun hbr => ?_) (fun hbr => ?_) <;> conv => whnf) | (refine Br.mk (fun hbr => ?_) (fun hbr => ?_) <;> conv => whnf) | (refine Both.mk ?_ ?_ <;> conv => whnf) | (refine Lq.of_class (fun x hx => Ld.blk ttOk rfl rfl hx.1 rfl rfl) ?_; conv => whnf) | (intro o1 ho1; conv => whnf) | (refine Lq.of_class (fun x hx => Ld.rowF ttOk Rg.cells_len 0 hx.2 rfl rfl (k := 0) rfl rfl (by omega) rfl) ?_; conv => whnf) | fail)
    exact ⟨rfl, hL.below⟩
set_option maxHeartbeats 4000000 in
theorem rsize_fn {B : Nat} {w0 w : World} {k m room : Nat} {pre : ByteArray} {R : List Fl} {sv dv : Value} {sg : List Rg} {af : Nat} {D : List Nat} {F : List Res} {s : Rg} (hs : sg.getLast? = some s) (hf : s.first ≤ 99999999) (hp : pre.size ≤ 1000000) (hD : RkS B w0 w k room R (rlR m k pre sv sg af dv D ++ F)) :
    Fn Tryz.prog 79 #[.pointer (some ⟨m, 0, none⟩)] w fun r w' => r = .int .i64 ((fileD R (wnm pre s.first)).length : Nat) ∧ RkS B w0 w' k room R (rlR m k pre sv sg af dv D ++ F) := by
  have hpos : 0 < sg.length := by
    rcases sg with _ | ⟨a, b⟩
    · simp at hs
    · simp
  have hgl : sg[sg.length - 1]? = some s := by rw [List.getLast?_eq_getElem?] at hs; exact hs
  obtain ⟨dL, hL, hB, close⟩ := hD.open
  obtain ⟨sa, sc, rfl⟩ := (show SlN w 2 sv sg.length _ from hL.rowN (i := 1) rfl).shape
  have hle := (show SlN w 2 _ sg.length _ from hL.rowN (i := 1) rfl).le
  obtain ⟨g, o, rfl, _⟩ := (show SlN w 2 _ sg.length _ from hL.rowN (i := 1) rfl).addr (by omega)
  generalize hX : sg.flatMap Rg.res ++ F ++ dL = X at *
  replace hL : Sep Tryz.prog B w0 w (.blk m [.pointer (some ⟨k, 0, none⟩), .string pre, .slice (some ⟨g, o, none⟩) sg.length sc, .int .i64 (af : Int), dv] 128 :: .row 133 2 (.slice (some ⟨g, o, none⟩) sg.length sc) sg.length (sg.flatMap Rg.cells) :: .row 3 1 dv D.length (D.map iN) :: X) := by
    rw [← hX]; exact hL
  refine Fn.mk Tryz.func79 rfl (by kernel_rfl) Tryz.ntmps79 rfl (by rw [Tryz.results79]) ?_
  repeat (first | (refine RunH ?_; intro w hL hB; try clear w) | (refine Both.mk ?_ ?_ <;> conv => whnf) | fail)
  refine V.tree ttOk (fun x => Blk x m [.pointer (some ⟨k, 0, none⟩), .string pre, .slice (some ⟨g, o, none⟩) sg.length sc, .int .i64 (af : Int), dv] 128 ∧ Row x g o (sg.flatMap Rg.cells)) (.q 0 (.q 1 (.q 2 (.q 3 (.q 4 (.q 5 (.q 6 (.q 7 (.q 8 (.q 9 (.q 10 (.q 11 (.q 12 (.q 13 (.q 14 (.q 15 (.q 16 (.q 17 (.q 18 (.q 19 (.q 20 (.alt 21 (.alt 22 (.q 23 (.q 24 (.q 25 (.q 26 (.q 27 .nil))))) .stop) .stop)))))))))))))))))))))) mixed (by decide +kernel) ⟨hL.drew.hold _ (.head _), (hL.drew.rowN (i := 1) rfl).rowOf⟩ ?_
  replace hL := hL.drew
  conv => whnf
  repeat' (first | (refine RunH ?_; intro w hL hB; try clear w) | (refine Br.dec (fun hbr => ?_) (fun hbr => ?_) <;> conv => whnf) | (refine Br.mk (fun hbr => ?_) (fun hbr => ?_) <;> conv => whnf) | (refine Both.mk ?_ ?_ <;> conv => whnf) | (refine Lq.of_class (fun x hx => Ld.blk ttOk rfl rfl hx.1 rfl rfl) ?_; conv => whnf) | (intro o1 ho1; conv => whnf) | (refine Lq.of_class (fun x hx => Ld.rowF ttOk Rg.cells_len 0 hx.2 rfl rfl hgl rfl (by omega) rfl) ?_; conv => whnf) | fail)
  refine (nameW_fn pre hp s.first hf _).mono fun r w ⟨hr, hw⟩ => ?_
  subst hr
  replace hL := hL.call hB (Turns.of_below hw)
  replace hB := Nat.le_trans hB hw.size
  refine And.intro ⟨hL.hold _ (.head _), (hL.rowN (i := 1) rfl).rowOf⟩ ?_
  conv => whnf
  repeat (first | (refine RunH ?_; intro w hL hB; try clear w) | (refine Both.mk ?_ ?_ <;> conv => whnf) | fail)
  subst hX
  refine (sizeW_fn (wnm pre s.first) (close (F' := rlR m k pre (.slice (some ⟨g, o, none⟩) sg.length sc) sg af dv D ++ F) hL hB)).mono fun r w ⟨hr, hD⟩ => ?_
  subst hr
  clear hL hB close
  obtain ⟨dL, hL, hB, close⟩ := hD.open
  refine And.intro ⟨hL.hold _ (.head _), (hL.rowN (i := 1) rfl).rowOf⟩ ?_
  conv => whnf
  repeat (first | (refine RunH ?_; intro w hL hB; try clear w) | (refine Both.mk ?_ ?_ <;> conv => whnf) | fail)
  exact ⟨rfl, hD⟩
end Go.Proofs.YtjafamiaahabgaaGreatDoor
namespace Go.Proofs.YtjafamiaahabgaaGreatDoor
open Go.RowKit Go.Lib
set_option linter.unusedVariables false
set_option linter.unusedSimpArgs false
set_option maxRecDepth 100000

/-- the last segment takes one more entry -/
def putW : List Wg → List UInt8 → List Wg
  | [], _ => []
  | [g], x => [⟨g.first, g.es ++ [x], true⟩]
  | g :: h :: gs, x => g :: putW (h :: gs) x
def lastW (G : List Wg) : Option Wg := G.getLast?
def freshW (G : List Wg) : Bool := match lastW G with
  | none => true
  | some g => decide (1024 ≤ g.size)
/-- the segment that takes the next entry -/
def takesW (G : List Wg) (af : Nat) : Nat := match lastW G with
  | none => af
  | some g => if 1024 ≤ g.size then af else g.first
def apE (pre : ByteArray) (room : Nat) (S : List Fl) (G : List Wg) (af : Nat) (x : List UInt8) : Nat :=
  if 1048566 < x.length then 5 else if 99999999 ≤ af then 6 else appE room S (wnm pre (takesW G af)) (recL af x)
def apG (G : List Wg) (af : Nat) (x : List UInt8) : List Wg := if freshW G = true then G ++ [⟨af, [x], true⟩] else putW G x
def apS (pre : ByteArray) (room : Nat) (S : List Fl) (G : List Wg) (af : Nat) (x : List UInt8) : List Fl :=
  if 1048566 < x.length ∨ 99999999 ≤ af then S else appS room S (wnm pre (takesW G af)) (encF (encU af ++ x))
theorem putW_snoc : ∀ (G : List Wg) (g : Wg) (x : List UInt8), putW (G ++ [g]) x = G ++ [⟨g.first, g.es ++ [x], true⟩]
  | [], _, _ => rfl
  | [_], _, _ => rfl
  | a :: b :: G, g, x => by
    show a :: putW (b :: G ++ [g]) x = _
    rw [putW_snoc (b :: G) g x]
    rfl
theorem perm_out {α : Type} (e l a b c : α) (M A Y Fr D : List α) : (e :: l :: (((A ++ (Y ++ (a :: b :: c :: M))) ++ Fr) ++ D)).Perm (e :: l :: a :: b :: c :: ((M ++ (A ++ (Y ++ Fr))) ++ D)) := by
  refine (List.Perm.cons _ ?_).cons _
  have h1 := List.perm_append_comm_assoc (A ++ Y) ([a, b, c] ++ M) (Fr ++ D)
  simpa using h1
theorem perm_new {α : Type} (a e l : α) (b c : α) (Z D : List α) : (c :: b :: a :: e :: l :: (Z ++ D)).Perm (e :: l :: a :: b :: c :: (Z ++ D)) := by
  have h1 : (c :: b :: a :: e :: l :: (Z ++ D)).Perm (e :: l :: ([c, b, a] ++ (Z ++ D))) := by
    have := List.perm_append_comm_assoc [c, b, a] [e, l] (Z ++ D)
    simpa using this
  refine h1.trans ((List.Perm.cons _ ?_).cons _)
  exact (List.reverse_perm [a, b, c]).append_right _
theorem perm_win2 {α : Type} (a b c e f : α) (M A Z D : List α) : (a :: b :: c :: e :: f :: ((M ++ (A ++ Z)) ++ D)).Perm (A ++ (a :: b :: c :: e :: f :: ((M ++ Z) ++ D))) := by
  have h := List.perm_append_comm_assoc ([a, b, c, e, f] ++ M) A (Z ++ D)
  simpa using h
theorem perm_back {α : Type} (r l a b c : α) (M A Y Fr D : List α) : (r :: l :: a :: b :: c :: ((M ++ (A ++ (Y ++ Fr))) ++ D)).Perm (l :: ((A ++ (Y ++ (a :: b :: c :: (M ++ [r]))) ++ Fr) ++ D)) := by
  refine (List.Perm.swap ..).trans (List.Perm.cons _ ?_)
  have h1 : (r :: a :: b :: c :: ((M ++ (A ++ (Y ++ Fr))) ++ D)).Perm ((a :: b :: c :: (M ++ [r])) ++ ((A ++ Y) ++ (Fr ++ D))) := by
    have := (List.perm_middle (a := r) (l₁ := [a, b, c] ++ M) (l₂ := (A ++ Y) ++ (Fr ++ D))).symm
    simpa using this
  refine h1.trans ?_
  have h2 := List.perm_append_comm_assoc (a :: b :: c :: (M ++ [r])) (A ++ Y) (Fr ++ D)
  simpa using h2
set_option maxHeartbeats 8000000 in
theorem logAppend_fn {B d l room : Nat} {pre : ByteArray} {S : List Fl} {G : List Wg} {af : Nat} {F : List Res} (v : Value) (x : List UInt8) (hx : x.length ≤ 100000000) (hp : 1 ≤ pre.size ∧ pre.size ≤ 55) {w0 w : World} (ht : TabW B w0) (hlen : G.length ≤ 1000000000) (hfs : ∀ g ∈ G, g.first ≤ 99999999 ∧ g.size ≤ 1073741824) (hch : ∀ g, G.getLast? = some g → g.next = af) (hv : ∀ w', Sep Tryz.prog B w0 w' F → Sl w' v (bv x)) (hG : LgS B w0 w d l pre room S G af F) :
    Fn Tryz.prog 9 #[.pointer (some ⟨l, 0, none⟩), v] w fun r w' => r = .tuple #[.int .i64 (if apE pre room S G af x = 0 then (af : Int) else 0), .int .i64 (apE pre room S G af x : Nat)] ∧ LgS B w0 w' d l pre room (apS pre room S G af x) (if apE pre room S G af x = 0 then apG G af x else G) (if apE pre room S G af x = 0 then af + 1 else af) F := by
  obtain ⟨n, sg, rfl, hok, hD⟩ := hG.of
  clear hG
  rw [List.length_map] at hlen
  have hps : (ptrs sg).length = sg.length := by simp [ptrs]
  obtain ⟨dL, hL, hB, close⟩ := hD.open
  clear hD
  have hsv := hv _ (hL.sub (by simp only [logR]; exact ((List.sublist_append_right _ _).trans (List.sublist_append_left _ _))))
  obtain ⟨va, vc, rfl⟩ := hsv.shape
  obtain ⟨q1, q2, q3⟩ := hsv.len
  rw [bv_length] at *
  refine Fn.mk Tryz.func9 rfl (by kernel_rfl) Tryz.ntmps9 rfl (by rw [Tryz.results9]) ?_
  have hsl : Sl w (n.val (ptrs sg)) (ptrs sg) := Wn.sl hok hL (fun R hR => by simp [logR]; exact .inr (.inl hR))
  obtain ⟨sa, sc, hve⟩ := hsl.shape
  rw [hps] at hve
  obtain ⟨X, hX⟩ : ∃ X, X = (n.res (ptrs sg) ++ sg.flatMap Sg.res) ++ F := ⟨_, rfl⟩
  replace hL : Sep Tryz.prog B w0 w (.blk l [.pointer (some ⟨d, 0, none⟩), .string pre, .slice sa sg.length sc, .int .i64 (af : Int)] 65 :: (X ++ dL)) := by
    rw [hX, ← hve]; exact hL
  have back : ∀ {w' : World} {S' : List Fl}, DkS B w0 w' d room S' (.blk l [.pointer (some ⟨d, 0, none⟩), .string pre, .slice sa sg.length sc, .int .i64 (af : Int)] 65 :: X) → LgS B w0 w' d l pre room S' (sg.map Sg.wg) af F := fun h => ⟨n, sg, rfl, hok, by rw [hX, ← hve] at h; exact h⟩
  have hv2 : ∀ {w' : World} {R1 R2 : List Res}, Sep Tryz.prog B w0 w' (R1 ++ (X ++ R2)) → Sl w' (.slice va x.length vc) (bv x) := fun h => hv _ (h.sub (by
    rw [hX]
    exact ((List.sublist_append_right _ _).trans (List.sublist_append_left _ _)).trans (List.sublist_append_right _ _)))
  by_cases hx1 : 1048566 < x.length
  · have he : apE pre room S (sg.map Sg.wg) af x = 5 := by rw [apE, if_pos hx1]
    have hs : apS pre room S (sg.map Sg.wg) af x = S := by rw [apS, if_pos (.inl hx1)]
    rw [he, hs, if_neg (by decide), if_neg (by decide), if_neg (by decide)]
    repeat (first | (refine RunH ?_; intro w hL hB; try clear w) | (refine Both.mk ?_ ?_ <;> conv => whnf) | fail)
    exact ⟨rfl, back (close (F' := .blk l _ _ :: X) hL hB)⟩
  by_cases hx2 : 99999999 ≤ af
  · have he : apE pre room S (sg.map Sg.wg) af x = 6 := by rw [apE, if_neg hx1, if_pos hx2]
    have hs : apS pre room S (sg.map Sg.wg) af x = S := by rw [apS, if_pos (.inr hx2)]
    rw [he, hs, if_neg (by decide), if_neg (by decide), if_neg (by decide)]
    repeat (first | (refine RunH ?_; intro w hL hB; try clear w) | (refine Both.mk ?_ ?_ <;> conv => whnf) | fail)
    exact ⟨rfl, back (close (F' := .blk l _ _ :: X) hL hB)⟩
  have he : apE pre room S (sg.map Sg.wg) af x = appE room S (wnm pre (takesW (sg.map Sg.wg) af)) (recL af x) := by rw [apE, if_neg hx1, if_neg hx2]
  have hs : apS pre room S (sg.map Sg.wg) af x = appS room S (wnm pre (takesW (sg.map Sg.wg) af)) (encF (encU af ++ x)) := by rw [apS, if_neg (by omega)]
  rw [he, hs]
  clear he hs
  repeat (first | (refine RunH ?_; intro w hL hB; try clear w) | (refine Both.mk ?_ ?_ <;> conv => whnf) | fail)
  refine (uvarint_fn af (by omega) _).mono fun r w ⟨ho, hw⟩ => ?_
  replace hL := hL.addRow hB hw ho
  replace hB := Nat.le_trans hB hw.size
  clear ho hw
  have hul := encU_len af
  obtain ⟨ra, rc, rfl⟩ := (show SlN w 1 r (encU af).length _ from hL.rowN (i := 0) rfl).shape
  conv => whnf
  repeat (first | (refine RunH ?_; intro w hL hB; try clear w) | (refine Both.mk ?_ ?_ <;> conv => whnf) | fail)
  refine Rv.appendS ttOk hL tl23 tl5 rfl (by decide) 0 rfl (Sl.toN (hv2 (R1 := [_, _]) hL)) (bv_one _) (by simp only [maxLen, bv_length]; omega) (by rw [bv_length]; omega) hB fun vo w hL hB => ?_
  dsimp only [List.set] at hL
  rw [← bv_append, bv_length, ← List.length_append] at hL
  obtain ⟨ra2, rc2, rfl⟩ := (show SlN w 1 vo (encU af ++ x).length _ from hL.rowN (i := 0) rfl).shape
  conv => whnf
  repeat (first | (refine RunH ?_; intro w hL hB; try clear w) | (refine Both.mk ?_ ?_ <;> conv => whnf) | fail)
  refine (encode_fn _ (encU af ++ x) (by rw [List.length_append]; omega) _ (hL.row (i := 0) rfl)).mono fun r w ⟨u, hr, ho, hw⟩ => ?_
  subst hr
  replace hL := (hL.addRow hB hw ho).pop 1
  replace hB := Nat.le_trans hB hw.size
  clear ho hw
  have hrl : (encF (encU af ++ x)).length = recL af x := by rw [encF_len, List.length_append, recL]; omega
  obtain ⟨ea, ec, rfl⟩ := (show SlN w 1 u (encF (encU af ++ x)).length _ from hL.rowN (i := 0) rfl).shape
  have hsl : Sl w (.slice sa sg.length sc) (ptrs sg) := by
    rw [← hve]
    exact Wn.sl hok hL (fun R hR => by
      rw [hX]
      exact List.mem_cons_of_mem _ (List.mem_cons_of_mem _ (List.mem_append_left _ (List.mem_append_left _ (List.mem_append_left _ hR)))))
  conv => whnf
  repeat (first | (refine RunH ?_; intro w hL hB; try clear w) | (refine Both.mk ?_ ?_ <;> conv => whnf) | fail)
  refine (logLast_fn w (hL.hold _ (.tail _ (.head _))) hsl).mono fun r w ⟨hr, hw⟩ => ?_
  subst hr
  replace hL := hL.call hB (Turns.of_below hw)
  replace hB := Nat.le_trans hB hw.size
  conv => whnf
  obtain ⟨fresh, hfr⟩ : ∃ b, b = freshW (sg.map Sg.wg) := ⟨_, rfl⟩
  refine V.seq ?_
  refine V.join (α := Unit) (fun _ => [(0, .pointer (some ⟨l, 0, none⟩)), (1, .slice va x.length vc), (6, .slice ea (encF (encU af ++ x)).length ec), (8, (ptrs sg).getLast?.getD (.pointer none)), (9, .bool fresh)])
    (fun _ w' => B ≤ w'.heap.size ∧ Sep Tryz.prog B w0 w' (.row 5 1 (.slice ea (encF (encU af ++ x)).length ec) (encF (encU af ++ x)).length (bv (encF (encU af ++ x))) :: .blk l [.pointer (some ⟨d, 0, none⟩), .string pre, .slice sa sg.length sc, .int .i64 (af : Int)] 65 :: (X ++ dL))) ?_ ?_
  · rcases List.eq_nil_or_concat sg with h0 | ⟨rest, s0, h0⟩
    · have hf1 : fresh = true := by rw [hfr, h0]; rfl
      rw [h0] at hL ⊢
      repeat (first | (refine RunH ?_; intro w hL hB; try clear w) | (refine Both.mk ?_ ?_ <;> conv => whnf) | fail)
      exact ⟨(), ⟨rfl, rfl, rfl, rfl, by rw [hf1]; rfl, trivial⟩, hB, hL⟩
    · rw [List.concat_eq_append] at h0
      have hlast : (ptrs sg).getLast?.getD (.pointer none) = .pointer (some ⟨s0.b, 0, none⟩) := by rw [h0]; simp [ptrs]
      have hf1 : fresh = decide (1024 ≤ s0.wg.size) := by rw [hfr, h0]; simp [freshW, lastW]
      have hsz : (s0.xs.getLast?.getD 0 : Nat) = s0.wg.size := by
        have := endsW_last 0 s0.first (s0.es.map En.d)
        rw [Nat.zero_add] at this
        exact this
      have hbig := (hfs s0.wg (by rw [h0]; simp)).2
      have hm : ∀ R ∈ s0.res, R ∈ (Res.row 5 1 (.slice ea (encF (encU af ++ x)).length ec) (encF (encU af ++ x)).length (bv (encF (encU af ++ x))) :: .blk l [.pointer (some ⟨d, 0, none⟩), .string pre, .slice sa sg.length sc, .int .i64 (af : Int)] 65 :: (X ++ dL)) := fun R hR => by
        refine List.mem_cons_of_mem _ (List.mem_cons_of_mem _ (List.mem_append_left _ ?_))
        rw [hX, h0]
        simp [hR]
      rw [hlast]
      repeat (first | (refine RunH ?_; intro w hL hB; try clear w) | (refine Both.mk ?_ ?_ <;> conv => whnf) | fail)
      refine (segSize_fn w (f := .int .i64 (s0.first : Int)) (xs := s0.xs) (hL.hold _ (hm s0.hd (.head _))) (RowC.sl (show RowC w _ s0.xv s0.es.length _ from hL.hold _ (hm s0.xR (.tail _ (.tail _ (.head _))))))).mono fun r w ⟨hr, hw⟩ => ?_
      subst hr
      replace hL := hL.call hB (Turns.of_below hw)
      replace hB := Nat.le_trans hB hw.size
      rw [hsz]
      by_cases hbg : 1024 ≤ s0.wg.size
      · have hbi : (1024 : Int) ≤ (s0.wg.size : Int) := by omega
        conv => whnf
        repeat (first | (refine RunH ?_; intro w hL hB; try clear w) | (refine Both.mk ?_ ?_ <;> conv => whnf) | fail)
        exact ⟨(), ⟨rfl, rfl, rfl, rfl, by rw [hf1, decide_eq_true hbg, decide_eq_true hbi]; rfl, trivial⟩, hB, hL⟩
      · have hbi : ¬ (1024 : Int) ≤ (s0.wg.size : Int) := by omega
        conv => whnf
        repeat (first | (refine RunH ?_; intro w hL hB; try clear w) | (refine Both.mk ?_ ?_ <;> conv => whnf) | fail)
        exact ⟨(), ⟨rfl, rfl, rfl, rfl, by rw [hf1, decide_eq_false hbg, decide_eq_false hbi]; rfl, trivial⟩, hB, hL⟩
  clear hL hB
  rintro _ w ⟨hB, hL⟩
  have htk : takesW (sg.map Sg.wg) af = if fresh then af else ((sg.map Sg.wg).getLast?.map Wg.first).getD 0 := by
    rw [takesW, hfr, freshW, lastW]
    cases (sg.map Sg.wg).getLast? with
    | none => rfl
    | some g => by_cases h : 1024 ≤ g.size <;> simp [h]
  refine V.seq ?_
  refine V.join (α := Sg × List Sg) (fun z => [(0, .pointer (some ⟨l, 0, none⟩)), (1, .slice va x.length vc), (6, .slice ea (encF (encU af ++ x)).length ec), (8, .pointer (some ⟨z.1.b, 0, none⟩)), (9, .bool fresh)])
    (fun z w' => (fresh = true → sg = z.2 ∧ z.1.first = af ∧ z.1.es = []) ∧ (fresh = false → sg = z.2 ++ [z.1]) ∧ B ≤ w'.heap.size ∧ Sep Tryz.prog B w0 w' (.row 5 1 (.slice ea (encF (encU af ++ x)).length ec) (encF (encU af ++ x)).length (bv (encF (encU af ++ x))) :: .blk l [.pointer (some ⟨d, 0, none⟩), .string pre, .slice sa sg.length sc, .int .i64 (af : Int)] 65 :: z.1.hd :: z.1.eR :: z.1.xR :: ((z.1.es.map En.res ++ (n.res (ptrs sg) ++ (z.2.flatMap Sg.res ++ F))) ++ dL))) ?_ ?_
  · cases hf1 : fresh with
    | true =>
      repeat (first | (refine RunH ?_; intro w hL hB; try clear w) | (refine Both.mk ?_ ?_ <;> conv => whnf) | fail)
      (refine Nw.sep hL hB (fun sb w hL hB hsb => ?_); conv => whnf)
      refine ⟨(⟨sb, af, .slice none 0 0, [], .slice none 0 0, false⟩, sg), ⟨rfl, rfl, rfl, rfl, rfl, trivial⟩, fun _ => ⟨rfl, rfl, rfl⟩, fun h => (by cases h), hB, ?_⟩
      replace hL : Sep Tryz.prog B w0 w (.blk sb [.int .i64 (af : Int), .slice none 0 0, .slice none 0 0, .bool false] 80 :: .row 5 1 (.slice ea (encF (encU af ++ x)).length ec) (encF (encU af ++ x)).length (bv (encF (encU af ++ x))) :: .blk l [.pointer (some ⟨d, 0, none⟩), .string pre, .slice sa sg.length sc, .int .i64 (af : Int)] 65 :: (X ++ dL)) := hL
      have h1 := ((hL.nilC 23).nilC 3)
      have hX3 : X = n.res (ptrs sg) ++ (sg.flatMap Sg.res ++ F) := by rw [hX, List.append_assoc]
      rw [hX3] at h1
      exact h1.perm (perm_new _ _ _ _ _ _ _)
    | false =>
      rcases List.eq_nil_or_concat sg with h0 | ⟨rest, s0, h0⟩
      · rw [hfr, h0] at hf1; cases hf1
      rw [List.concat_eq_append] at h0
      have hlast : (ptrs sg).getLast?.getD (.pointer none) = .pointer (some ⟨s0.b, 0, none⟩) := by rw [h0]; simp [ptrs]
      rw [hlast]
      repeat (first | (refine RunH ?_; intro w hL hB; try clear w) | (refine Both.mk ?_ ?_ <;> conv => whnf) | fail)
      refine ⟨(s0, rest), ⟨rfl, rfl, rfl, rfl, rfl, trivial⟩, fun h => (by cases h), fun _ => h0, hB, ?_⟩
      have e2 : sg.flatMap Sg.res = rest.flatMap Sg.res ++ (s0.hd :: s0.eR :: s0.xR :: s0.es.map En.res) := by rw [h0]; simp [Sg.res]
      rw [hX, e2] at hL
      exact hL.perm (perm_out _ _ _ _ _ _ _ _ _ _)
  clear hL hB
  rintro ⟨⟨sb, fi, ev, es, xv, dt⟩, rest⟩ w ⟨hz1, hz2, hB, hL⟩
  dsimp only at hz1 hz2 hL ⊢
  have hfi : takesW (sg.map Sg.wg) af = fi := by
    rw [htk]
    cases hf1 : fresh with
    | true => rw [if_pos rfl]; exact (hz1 hf1).2.1.symm
    | false => rw [if_neg (by simp), hz2 hf1]; simp [Sg.wg]
  have hfl : fi ≤ 99999999 := by
    cases hf1 : fresh with
    | true => rw [(hz1 hf1).2.1]; omega
    | false => exact (hfs (Sg.wg ⟨sb, fi, ev, es, xv, dt⟩) (by rw [hz2 hf1]; simp)).1
  rw [hfi]
  replace hL : Sep Tryz.prog B w0 w (.row 5 1 (.slice ea (encF (encU af ++ x)).length ec) (encF (encU af ++ x)).length (bv (encF (encU af ++ x))) :: .blk l [.pointer (some ⟨d, 0, none⟩), .string pre, .slice sa sg.length sc, .int .i64 (af : Int)] 65 :: .blk sb [.int .i64 (fi : Int), ev, xv, .bool dt] 80 :: .rc 23 ev es.length (es.map En.v) :: .rc 3 xv es.length ((endsW 0 fi (es.map En.d)).map iN) :: ((es.map En.res ++ (n.res (ptrs sg) ++ (rest.flatMap Sg.res ++ F))) ++ dL)) := hL
  obtain ⟨eva, evc, rfl⟩ := RowC.shape (show RowC w _ ev es.length _ from hL.at (i := 3) rfl)
  obtain ⟨xva, xvc, rfl⟩ := RowC.shape (show RowC w _ xv es.length _ from hL.at (i := 4) rfl)
  have hnm : (wnm pre fi).size ≤ 1000000 := by rw [wnm_size hfl]; omega
  refine V.seq ?_
  refine V.seq ?_
  refine V.tree ttOk (fun x => Blk x l [.pointer (some ⟨d, 0, none⟩), .string pre, .slice sa sg.length sc, .int .i64 (af : Int)] 65 ∧ Blk x sb [.int .i64 (fi : Int), .slice eva es.length evc, .slice xva es.length xvc, .bool dt] 80) (.q 0 (.q 1 (.q 2 (.q 3 (.q 4 (.q 5 (.q 6 (.q 7 (.q 8 (.q 10 (.alt 9 (.alt 11 (.q 12 .nil) .stop) .stop))))))))))) mixed (by decide +kernel) ⟨hL.drew.hold _ (.tail _ (.head _)), hL.drew.hold _ (.tail _ (.tail _ (.head _)))⟩ ?_
  replace hL := hL.drew
  conv => whnf
  repeat' (first | (refine RunH ?_; intro w hL hB; try clear w) | (refine Br.dec (fun hbr => ?_) (fun hbr => ?_) <;> conv => whnf) | (refine Br.mk (fun hbr => ?_) (fun hbr => ?_) <;> conv => whnf) | (refine Both.mk ?_ ?_ <;> conv => whnf) | (refine Lq.of_class (fun x hx => Ld.blk ttOk rfl rfl hx.1 rfl rfl) ?_; conv => whnf) | (refine Lq.of_class (fun x hx => Ld.blk ttOk rfl rfl hx.2 rfl rfl) ?_; conv => whnf) | fail)
  refine (name_fn fi hfl (by omega) _ (hL.hold _ (.tail _ (.head _))) (ht _ hL.below)).mono fun r w ⟨hr, hw⟩ => ?_
  subst hr
  replace hL := hL.call hB (Turns.of_below hw)
  replace hB := Nat.le_trans hB hw.size
  conv => whnf
  refine And.intro ⟨hL.hold _ (.tail _ (.head _)), hL.hold _ (.tail _ (.tail _ (.head _)))⟩ ?_
  conv => whnf
  refine (append_fn (wnm pre fi) hnm _ (encF (encU af ++ x)) (fun w' h => h.row (i := 0) rfl) (close (F' := .row _ _ _ _ _ :: .blk l _ _ :: .blk sb _ _ :: .rc _ _ _ _ :: .rc _ _ _ _ :: (es.map En.res ++ (n.res (ptrs sg) ++ (rest.flatMap Sg.res ++ F)))) hL hB)).mono fun r w ⟨hr, hD⟩ => ?_
  subst hr
  clear hL hB close
  obtain ⟨dL, hL, hB, close⟩ := hD.open
  clear hD
  rw [hrl]
  conv => whnf
  refine And.intro ⟨hL.hold _ (.tail _ (.head _)), hL.hold _ (.tail _ (.tail _ (.head _)))⟩ ?_
  conv => whnf
  by_cases hap : appE room S (wnm pre fi) (recL af x) ≠ 0
  · have hs0 : appS room S (wnm pre fi) (encF (encU af ++ x)) = S := by rw [appS, hrl, if_neg hap]
    rw [if_neg hap, if_neg hap, if_neg hap, hs0]
    rw [hs0] at close
    have hap2 : ¬ ((appE room S (wnm pre fi) (recL af x) : Nat) : Int) = 0 := by omega
    repeat (first | (refine RunH ?_; intro w hL hB; try clear w) | (refine Both.mk ?_ ?_ <;> conv => whnf) | fail)
    refine ⟨rfl, back (close (F' := .blk l _ _ :: X) ?_ hB)⟩
    have hL := hL.tl
    cases hf1 : fresh with
    | true =>
      obtain ⟨h1, h2, h3⟩ := hz1 hf1
      subst h3
      have hX3 : X = n.res (ptrs sg) ++ (rest.flatMap Sg.res ++ F) := by rw [hX, List.append_assoc, ← h1]
      rw [hX3]
      exact hL.sub ((List.Sublist.cons _ (List.Sublist.cons _ (List.Sublist.cons _ (List.Sublist.refl _)))).cons_cons _)
    | false =>
      have h1 := hz2 hf1
      have e2 : sg.flatMap Sg.res = rest.flatMap Sg.res ++ (.blk sb [.int .i64 (fi : Int), .slice eva es.length evc, .slice xva es.length xvc, .bool dt] 80 :: .rc 23 (.slice eva es.length evc) es.length (es.map En.v) :: .rc 3 (.slice xva es.length xvc) es.length ((endsW 0 fi (es.map En.d)).map iN) :: es.map En.res) := by
        rw [h1]; simp [Sg.res, Sg.hd, Sg.cells, Sg.eR, Sg.xR, Sg.xs]
      rw [hX, e2]
      have h3 := (perm_out (Res.ro (.slice none 0 0) []) (Res.ro (.slice none 0 0) []) (.blk sb [.int .i64 (fi : Int), .slice eva es.length evc, .slice xva es.length xvc, .bool dt] 80) (.rc 23 (.slice eva es.length evc) es.length (es.map En.v)) (.rc 3 (.slice xva es.length xvc) es.length ((endsW 0 fi (es.map En.d)).map iN)) (es.map En.res) (n.res (ptrs sg)) (rest.flatMap Sg.res) F dL).cons_inv.cons_inv
      exact hL.perm (h3.symm.cons _)
  replace hap : appE room S (wnm pre fi) (recL af x) = 0 := by omega
  have hap2 : ((appE room S (wnm pre fi) (recL af x) : Nat) : Int) = 0 := by omega
  rw [if_pos hap, if_pos hap, if_pos hap]
  refine V.join (α := Unit) (fun _ => [(0, .pointer (some ⟨l, 0, none⟩)), (1, .slice va x.length vc), (6, .slice ea (recL af x) ec), (8, .pointer (some ⟨sb, 0, none⟩)), (9, .bool fresh)])
    (fun _ w' => w' = w) ?_ ?_
  · repeat (first | (refine RunH ?_; intro w hL hB; try clear w) | (refine Both.mk ?_ ?_ <;> conv => whnf) | fail)
    exact ⟨(), ⟨rfl, rfl, rfl, rfl, rfl, trivial⟩, rfl⟩
  rintro _ w1 hw1
  rw [hw1]
  clear hw1 w1
  refine V.seq ?_
  refine V.join (α := Wn × Option Addr × Nat) (fun z => [(0, .pointer (some ⟨l, 0, none⟩)), (1, .slice va x.length vc), (6, .slice ea (recL af x) ec), (8, .pointer (some ⟨sb, 0, none⟩))])
    (fun z w' => z.1.ok (ptrs rest ++ [.pointer (some ⟨sb, 0, none⟩)]) ∧ z.1.val (ptrs rest ++ [.pointer (some ⟨sb, 0, none⟩)]) = .slice z.2.1 (rest.length + 1) z.2.2 ∧ B ≤ w'.heap.size ∧ Sep Tryz.prog B w0 w' (.blk l [.pointer (some ⟨d, 0, none⟩), .string pre, .slice z.2.1 (rest.length + 1) z.2.2, .int .i64 (af : Int)] 65 :: .blk sb [.int .i64 (fi : Int), .slice eva es.length evc, .slice xva es.length xvc, .bool dt] 80 :: .rc 23 (.slice eva es.length evc) es.length (es.map En.v) :: .rc 3 (.slice xva es.length xvc) es.length ((endsW 0 fi (es.map En.d)).map iN) :: ((es.map En.res ++ (z.1.res (ptrs rest ++ [.pointer (some ⟨sb, 0, none⟩)]) ++ (rest.flatMap Sg.res ++ F))) ++ dL))) ?_ ?_
  · cases hf1 : fresh with
    | true =>
      have h1 := (hz1 hf1).1
      replace hL := hL.tl
      rw [← h1] at hL ⊢
      have hp1 : ptrs sg ++ [.pointer (some ⟨sb, 0, none⟩)] = ptrs sg ++ [.pointer (some ⟨sb, 0, none⟩)] := rfl
      repeat (first | (refine RunH ?_; intro w hL hB; try clear w) | (refine Both.mk ?_ ?_ <;> conv => whnf) | fail)
      refine Rv.buildS (len := 1) ttOk hL tl63 tl75 rfl rfl (by intro u hu; simp only [List.mem_singleton] at hu; subst hu; rfl) (by decide) (by decide) hB fun bo1 w hL hB => ?_
      conv => whnf
      repeat (first | (refine RunH ?_; intro w hL hB; try clear w) | (refine Both.mk ?_ ?_ <;> conv => whnf) | fail)
      have hsn : SlN w 1 (.slice (some ⟨bo1, 0, none⟩) 1 1) 1 [.pointer (some ⟨sb, 0, none⟩)] := hL.rowN (i := 0) rfl
      refine Eq.mp (congrArg (fun v => Rv _ (Builtin.append_ _ _ #[v, _]) _ _) hve) ?_
      refine Rv.appendW hL (perm_win2 _ _ _ _ _ _ _ _ _) hok (by rw [hps]; omega) hsn rfl hB fun n2 w hok2 hL hB => ?_
      obtain ⟨va2, vc2, hv3⟩ := (Wn.sl hok2 hL (fun R hR => List.mem_append_left _ hR)).shape
      rw [List.length_append, hps, List.length_singleton] at hv3
      replace hL := hL.perm (perm_win2 _ _ _ _ _ _ _ _ _).symm
      rw [hv3]
      conv => whnf
      repeat (first | (refine RunH ?_; intro w hL hB; try clear w) | (refine Both.mk ?_ ?_ <;> conv => whnf) | fail)
      exact ⟨(n2, va2, vc2), ⟨rfl, rfl, rfl, rfl, trivial⟩, hok2, hv3, hB, hL.tl⟩
    | false =>
      have h1 := hz2 hf1
      have hp1 : ptrs sg = ptrs rest ++ [.pointer (some ⟨sb, 0, none⟩)] := by rw [h1]; simp [ptrs]
      have hl1 : sg.length = rest.length + 1 := by rw [h1]; simp
      rw [hp1] at hok hve hL
      rw [hl1] at hve hL
      repeat (first | (refine RunH ?_; intro w hL hB; try clear w) | (refine Both.mk ?_ ?_ <;> conv => whnf) | fail)
      exact ⟨(n, sa, sc), ⟨rfl, rfl, rfl, rfl, trivial⟩, hok, hve, hB, hL.tl⟩
  clear hL hB
  rintro ⟨n2, sa2, sc2⟩ w ⟨hok2, hve2, hB, hL⟩
  dsimp only at hok2 hve2 hL ⊢
  have hsx : ∀ {w' : World} {R1 : List Res}, Sep Tryz.prog B w0 w' (R1 ++ ((es.map En.res ++ (n2.res (ptrs rest ++ [.pointer (some ⟨sb, 0, none⟩)]) ++ (rest.flatMap Sg.res ++ F))) ++ dL)) → Sl w' (.slice va x.length vc) (bv x) := fun h => hv _ (h.sub
    ((((List.sublist_append_right _ _).trans (List.sublist_append_right _ _)).trans (List.sublist_append_right _ _)).trans ((List.sublist_append_left _ _).trans (List.sublist_append_right _ _))))
  generalize hZ : ((es.map En.res ++ (n2.res (ptrs rest ++ [.pointer (some ⟨sb, 0, none⟩)]) ++ (rest.flatMap Sg.res ++ F))) ++ dL) = Z at hL hsx
  refine V.seq ?_
  have hsz : (endsW 0 fi (es.map En.d)).getLast?.getD 0 = lenW fi (es.map En.d) := by
    have := endsW_last 0 fi (es.map En.d)
    rwa [Nat.zero_add] at this
  have hsb : lenW fi (es.map En.d) ≤ 1073741824 := by
    cases hf1 : fresh with
    | true => rw [(hz1 hf1).2.2]; simp [lenW]
    | false => exact (hfs (Sg.wg ⟨sb, fi, .slice eva es.length evc, es, .slice xva es.length xvc, dt⟩) (by rw [hz2 hf1]; simp)).2
  have hesl : 9 * es.length ≤ lenW fi (es.map En.d) := by have := lenW_ge fi (es.map En.d); rwa [List.length_map] at this
  have hrb : recL af x ≤ 200000000 := by rw [recL]; omega
  refine V.join (α := Value × Value × Value) (fun z => [(0, .pointer (some ⟨l, 0, none⟩))])
    (fun z w' => B ≤ w'.heap.size ∧ Sep Tryz.prog B w0 w' (.row 5 1 z.1 x.length (bv x) :: .blk l [.pointer (some ⟨d, 0, none⟩), .string pre, .slice sa2 (rest.length + 1) sc2, .int .i64 (af : Int)] 65 :: .blk sb [.int .i64 (fi : Int), z.2.1, z.2.2, .bool true] 80 :: .rc 23 z.2.1 (es.length + 1) (es.map En.v ++ [z.1]) :: .rc 3 z.2.2 (es.length + 1) ((endsW 0 fi (es.map En.d)).map iN ++ [.int .i64 ((lenW fi (es.map En.d) : Nat) + (recL af x : Nat) : Int)]) :: Z)) ?_ ?_
  · refine V.tree ttOk (fun _ => True) (.q 0 (.q 1 (.q 2 (.q 3 (.q 4 (.q 5 (.q 7 (.q 11 (.q 12 (.q 13 (.q 15 (.q 17 (.q 18 (.alt 6 (.alt 8 (.alt 9 (.alt 10 (.alt 14 (.alt 16 (.q 19 (.alt 20 (.alt 21 (.q 22 (.q 23 (.alt 24 (.q 25 (.q 26 (.alt 27 (.q 28 (.q 29 (.alt 30 .nil .stop))) .stop))) .stop))) .stop) .stop)) .stop) (.alt 16 (.q 19 (.alt 14 (.alt 20 (.alt 21 (.q 22 (.q 23 (.alt 24 (.q 25 (.q 26 (.alt 27 (.q 28 (.q 29 (.alt 30 .nil .stop))) .stop))) .stop))) .stop) .stop) (.alt 20 (.alt 14 (.alt 21 (.q 22 (.q 23 (.alt 24 (.q 25 (.q 26 (.alt 27 (.q 28 (.q 29 (.alt 30 .nil .stop))) .stop))) .stop))) .stop) .stop) .stop))) .stop)) (.alt 14 (.alt 10 (.alt 16 (.q 19 (.alt 20 (.alt 21 (.q 22 (.q 23 (.alt 24 (.q 25 (.q 26 (.alt 27 (.q 28 (.q 29 (.alt 30 .nil .stop))) .stop))) .stop))) .stop) .stop)) .stop) .stop) .stop)) (.alt 14 (.alt 9 (.alt 10 (.alt 16 (.q 19 (.alt 20 (.alt 21 (.q 22 (.q 23 (.alt 24 (.q 25 (.q 26 (.alt 27 (.q 28 (.q 29 (.alt 30 .nil .stop))) .stop))) .stop))) .stop) .stop)) .stop) .stop) .stop) .stop)) (.alt 14 (.alt 8 (.alt 9 (.alt 10 (.alt 16 (.q 19 (.alt 20 (.alt 21 (.q 22 (.q 23 (.alt 24 (.q 25 (.q 26 (.alt 27 (.q 28 (.q 29 (.alt 30 .nil .stop))) .stop))) .stop))) .stop) .stop)) .stop) .stop) .stop) .stop) .stop)) (.alt 8 (.alt 6 (.alt 9 (.alt 10 (.alt 14 (.alt 16 (.q 19 (.alt 20 (.alt 21 (.q 22 (.q 23 (.alt 24 (.q 25 (.q 26 (.alt 27 (.q 28 (.q 29 (.alt 30 .nil .stop))) .stop))) .stop))) .stop) .stop)) .stop) (.alt 16 (.q 19 (.alt 14 (.alt 20 (.alt 21 (.q 22 (.q 23 (.alt 24 (.q 25 (.q 26 (.alt 27 (.q 28 (.q 29 (.alt 30 .nil .stop))) .stop))) .stop))) .stop) .stop) (.alt 20 (.alt 14 (.alt 21 (.q 22 (.q 23 (.alt 24 (.q 25 (.q 26 (.alt 27 (.q 28 (.q 29 (.alt 30 .nil .stop))) .stop))) .stop))) .stop) .stop) .stop))) .stop)) (.alt 14 (.alt 10 (.alt 16 (.q 19 (.alt 20 (.alt 21 (.q 22 (.q 23 (.alt 24 (.q 25 (.q 26 (.alt 27 (.q 28 (.q 29 (.alt 30 .nil .stop))) .stop))) .stop))) .stop) .stop)) .stop) .stop) .stop)) (.alt 14 (.alt 9 (.alt 10 (.alt 16 (.q 19 (.alt 20 (.alt 21 (.q 22 (.q 23 (.alt 24 (.q 25 (.q 26 (.alt 27 (.q 28 (.q 29 (.alt 30 .nil .stop))) .stop))) .stop))) .stop) .stop)) .stop) .stop) .stop) .stop)) (.alt 9 (.alt 6 (.alt 10 (.alt 14 (.alt 16 (.q 19 (.alt 20 (.alt 21 (.q 22 (.q 23 (.alt 24 (.q 25 (.q 26 (.alt 27 (.q 28 (.q 29 (.alt 30 .nil .stop))) .stop))) .stop))) .stop) .stop)) .stop) (.alt 16 (.q 19 (.alt 14 (.alt 20 (.alt 21 (.q 22 (.q 23 (.alt 24 (.q 25 (.q 26 (.alt 27 (.q 28 (.q 29 (.alt 30 .nil .stop))) .stop))) .stop))) .stop) .stop) (.alt 20 (.alt 14 (.alt 21 (.q 22 (.q 23 (.alt 24 (.q 25 (.q 26 (.alt 27 (.q 28 (.q 29 (.alt 30 .nil .stop))) .stop))) .stop))) .stop) .stop) .stop))) .stop)) (.alt 14 (.alt 10 (.alt 16 (.q 19 (.alt 20 (.alt 21 (.q 22 (.q 23 (.alt 24 (.q 25 (.q 26 (.alt 27 (.q 28 (.q 29 (.alt 30 .nil .stop))) .stop))) .stop))) .stop) .stop)) .stop) .stop) .stop)) (.alt 14 (.alt 6 (.alt 10 (.alt 16 (.q 19 (.alt 20 (.alt 21 (.q 22 (.q 23 (.alt 24 (.q 25 (.q 26 (.alt 27 (.q 28 (.q 29 (.alt 30 .nil .stop))) .stop))) .stop))) .stop) .stop)) .stop) .stop) .stop) .stop)) (.alt 14 (.alt 6 (.alt 9 (.alt 10 (.alt 16 (.q 19 (.alt 20 (.alt 21 (.q 22 (.q 23 (.alt 24 (.q 25 (.q 26 (.alt 27 (.q 28 (.q 29 (.alt 30 .nil .stop))) .stop))) .stop))) .stop) .stop)) .stop) .stop) .stop) (.alt 9 (.alt 6 (.alt 10 (.alt 16 (.q 19 (.alt 20 (.alt 21 (.q 22 (.q 23 (.alt 24 (.q 25 (.q 26 (.alt 27 (.q 28 (.q 29 (.alt 30 .nil .stop))) .stop))) .stop))) .stop) .stop)) .stop) .stop) .stop) .stop)) .stop))) (.alt 14 (.alt 6 (.alt 8 (.alt 9 (.alt 10 (.alt 16 (.q 19 (.alt 20 (.alt 21 (.q 22 (.q 23 (.alt 24 (.q 25 (.q 26 (.alt 27 (.q 28 (.q 29 (.alt 30 .nil .stop))) .stop))) .stop))) .stop) .stop)) .stop) .stop) .stop) .stop) (.alt 8 (.alt 6 (.alt 9 (.alt 10 (.alt 16 (.q 19 (.alt 20 (.alt 21 (.q 22 (.q 23 (.alt 24 (.q 25 (.q 26 (.alt 27 (.q 28 (.q 29 (.alt 30 .nil .stop))) .stop))) .stop))) .stop) .stop)) .stop) .stop) .stop) (.alt 9 (.alt 6 (.alt 10 (.alt 16 (.q 19 (.alt 20 (.alt 21 (.q 22 (.q 23 (.alt 24 (.q 25 (.q 26 (.alt 27 (.q 28 (.q 29 (.alt 30 .nil .stop))) .stop))) .stop))) .stop) .stop)) .stop) .stop) .stop) .stop)) .stop)) .stop)))))))))))))))) mixed (by decide +kernel) trivial ?_
    replace hL := hL.drew
    conv => whnf
    repeat' (first | (refine RunH ?_; intro w hL hB; try clear w) | (refine Br.dec (fun hbr => ?_) (fun hbr => ?_) <;> conv => whnf) | (refine Br.mk (fun hbr => ?_) (fun hbr => ?_) <;> conv => whnf) | (refine Both.mk ?_ ?_ <;> conv => whnf) | (refine And.intro trivial ?_; conv => whnf) | (refine (clone_fn _ x _ (hsx (R1 := [_, _, _, _]) hL) (by omega)).mono fun r w hr => ?_; obtain ⟨hown, hbl⟩ := hr; replace hL := hL.addRow hB hbl hown; replace hB := Nat.le_trans hB hbl.size; obtain ⟨ka9, kc9, rfl⟩ := (hL.rowN (i := 0) rfl).shape; conv => whnf) | (refine (segSize_fn _ (f := .int .i64 (fi : Int)) (xs := endsW 0 fi (es.map En.d)) (hL.hold (.blk sb [.int .i64 (fi : Int), .slice eva es.length evc, .slice xva es.length xvc, .bool dt] 80) (by repeat (first | exact .head _ | apply List.Mem.tail))) (RowC.sl (hL.hold (.rc 3 (.slice xva es.length xvc) es.length ((endsW 0 fi (es.map En.d)).map iN)) (by repeat (first | exact .head _ | apply List.Mem.tail))))).mono fun r w hr => ?_; obtain ⟨hr, hw⟩ := hr; rw [hsz] at hr; subst hr; replace hL := hL.call hB (Turns.of_below hw); replace hB := Nat.le_trans hB hw.size; conv => whnf) | (refine Rv.buildS (len := 1) ttOk hL tl22 tl23 rfl rfl (by intro u hu; simp only [List.mem_singleton] at hu; subst hu; rfl) (by decide) (by decide) hB (fun bo1 w hL hB => ?_); conv => whnf) | (refine Rv.buildS (len := 1) ttOk hL tl78 tl3 rfl rfl (by intro u hu; simp only [List.mem_singleton] at hu; subst hu; rfl) (by decide) (by decide) hB (fun bo1 w hL hB => ?_); conv => whnf) | (refine Rv.appendC ttOk hL tl22 tl23 rfl 4 rfl (hL.rowN (i := 0) rfl) (by intro u hu; rw [List.mem_singleton.1 hu]; rfl) (by simp only [maxLen]; omega) (by omega) hB (fun v9 w hL hB => ?_); dsimp only [List.set] at hL; obtain ⟨va9, vc9, rfl⟩ := RowC.shape (hL.at (i := 4) rfl); conv => whnf) | (refine Rv.appendC ttOk hL tl78 tl3 rfl 6 rfl (hL.rowN (i := 0) rfl) (by intro u hu; rw [List.mem_singleton.1 hu]; rfl) (by simp only [maxLen]; omega) (by omega) hB (fun v9 w hL hB => ?_); dsimp only [List.set] at hL; obtain ⟨va9, vc9, rfl⟩ := RowC.shape (hL.at (i := 6) rfl); conv => whnf) | fail)
    all_goals exact ⟨(_, _, _), ⟨rfl, trivial⟩, hB, hL.tl.tl⟩
  clear hL hB
  rintro ⟨kv, ev2, xv2⟩ w ⟨hB, hL⟩
  dsimp only at hL ⊢
  rw [← hZ] at hL
  have hnx : fi + es.length = af := by
    cases hf1 : fresh with
    | true => obtain ⟨_, h2, h3⟩ := hz1 hf1; rw [h2, h3]; rfl
    | false =>
      have := hch (Sg.wg ⟨sb, fi, .slice eva es.length evc, es, .slice xva es.length xvc, dt⟩) (by rw [hz2 hf1]; simp)
      simpa [Wg.next, Sg.wg] using this
  repeat (first | (refine RunH ?_; intro w hL hB; try clear w) | (refine Both.mk ?_ ?_ <;> conv => whnf) | fail)
  have eaf : ((af : Int) + 1 - 1) = (af : Int) := by omega
  refine ⟨by rw [hap, eaf]; rfl, ⟨n2, rest ++ [⟨sb, fi, ev2, es ++ [⟨kv, x⟩], xv2, true⟩], ?_, ?_, ?_⟩⟩
  · cases hf1 : fresh with
    | true =>
      obtain ⟨h1, h2, h3⟩ := hz1 hf1
      rw [apG, ← hfr, hf1, if_pos rfl, h1, h2, h3]
      simp [Sg.wg]
    | false =>
      rw [apG, ← hfr, hf1, if_neg (by simp), hz2 hf1, List.map_append, List.map_append, List.map_singleton, List.map_singleton, putW_snoc]
      simp [Sg.wg]
  · have e1 : ptrs (rest ++ [(⟨sb, fi, ev2, es ++ [⟨kv, x⟩], xv2, true⟩ : Sg)]) = ptrs rest ++ [.pointer (some ⟨sb, 0, none⟩)] := by simp [ptrs]
    rw [e1]; exact hok2
  · refine close (F' := logR l d pre n2 (rest ++ [⟨sb, fi, ev2, es ++ [⟨kv, x⟩], xv2, true⟩]) (af + 1) ++ F) ?_ hB
    have e1 : ptrs (rest ++ [(⟨sb, fi, ev2, es ++ [⟨kv, x⟩], xv2, true⟩ : Sg)]) = ptrs rest ++ [.pointer (some ⟨sb, 0, none⟩)] := by simp [ptrs]
    have e3 : iN (0 + lenW fi (es.map En.d) + recL af x) = .int .i64 ((lenW fi (es.map En.d) : Nat) + (recL af x : Nat) : Int) := by rw [iN]; congr 1; push_cast; omega
    have e2 : (rest ++ [(⟨sb, fi, ev2, es ++ [⟨kv, x⟩], xv2, true⟩ : Sg)]).flatMap Sg.res = rest.flatMap Sg.res ++ (.blk sb [.int .i64 (fi : Int), ev2, xv2, .bool true] 80 :: .rc 23 ev2 (es.length + 1) (es.map En.v ++ [kv]) :: .rc 3 xv2 (es.length + 1) ((endsW 0 fi (es.map En.d)).map iN ++ [.int .i64 ((lenW fi (es.map En.d) : Nat) + (recL af x : Nat) : Int)]) :: (es.map En.res ++ [.ro kv (bv x)])) := by
      rw [List.flatMap_append, List.flatMap_singleton]
      congr 1
      simp only [Sg.res, Sg.hd, Sg.cells, Sg.eR, Sg.xR, Sg.xs, List.map_append, List.map_singleton, List.length_append, List.length_singleton, endsW_snoc, List.length_map, hnx, e3, En.res]
    have hkv : Sl w kv (bv x) := hL.row (i := 0) rfl
    have hlt := Res.lt (hL.hold _ (.head _))
    have := (hL.says (R' := .ro kv (bv x)) ⟨hkv, fun b hb => hlt b (by simp [Res.blocks, hb, rowB])⟩ rfl).perm (perm_back _ _ _ _ _ _ _ _ _ _)
    rw [logR, logC, e1, e2, hve2]
    exact this
end Go.Proofs.YtjafamiaahabgaaGreatDoor
