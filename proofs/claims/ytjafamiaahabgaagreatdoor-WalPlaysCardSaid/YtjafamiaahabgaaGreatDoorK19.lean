/- wal: Sync. wal: of, Get. Nothing is claimed here. -/
import Derived.Test.YtjafamiaahabgaaGreatDoorK18
namespace Go.Proofs.YtjafamiaahabgaaGreatDoor
open Go.RowKit Go.Lib
set_option linter.unusedVariables false
set_option linter.unusedSimpArgs false
set_option maxRecDepth 100000

def Wg.clean (g : Wg) : Wg := { g with dirty := false }
def Sg.clean (s : Sg) : Sg := { s with dirty := false }
def syncStep (pre : ByteArray) (S : List Fl) (g : Wg) : List Fl := if g.dirty then syncS S (wnm pre g.first) else S
def syncG (pre : ByteArray) (S : List Fl) (G : List Wg) : List Fl := G.foldl (syncStep pre) S
theorem perm_pick {α : Type} (l h : α) (N Y1 R Y2 Fr D : List α) : ((l :: (N ++ (Y1 ++ (h :: R ++ Y2)))) ++ Fr ++ D).Perm (l :: h :: ((N ++ (Y1 ++ (R ++ Y2))) ++ Fr ++ D)) := by
  rw [List.cons_append, List.cons_append]
  refine List.Perm.cons _ ?_
  have h1 := List.perm_middle (a := h) (l₁ := N ++ Y1) (l₂ := R ++ Y2 ++ Fr ++ D)
  simpa using h1
theorem syncAt {A C : List Sg} {s : Sg} {i : Nat} (hi : A.length = i) : (A ++ s :: C).take i = A ∧ (A ++ s :: C).drop i = s :: C ∧ (A ++ s :: C).take (i + 1) = A ++ [s] ∧ (A ++ s :: C).drop (i + 1) = C := by
  subst hi
  refine ⟨List.take_left' rfl, List.drop_left' rfl, ?_, ?_⟩
  · rw [show A ++ s :: C = (A ++ [s]) ++ C by simp, List.take_left' (by simp)]
  · rw [show A ++ s :: C = (A ++ [s]) ++ C by simp, List.drop_left' (by simp)]
set_option maxHeartbeats 4000000 in
theorem logSync_fn {B d l room : Nat} {pre : ByteArray} {S : List Fl} {G : List Wg} {af : Nat} {F : List Res} (hp : 1 ≤ pre.size ∧ pre.size ≤ 55) {w0 w : World} (ht : TabW B w0) (hlen : G.length ≤ 1000000000) (hfs : ∀ g ∈ G, g.first ≤ 99999999) (hG : LgS B w0 w d l pre room S G af F) :
    Fn Tryz.prog 11 #[.pointer (some ⟨l, 0, none⟩)] w fun r w' => r = .int .i64 0 ∧ LgS B w0 w' d l pre room (syncG pre S G) (G.map Wg.clean) af F := by
  obtain ⟨n, sg, rfl, hok, hD⟩ := hG.of
  clear hG
  rw [List.length_map] at hlen
  have hps : (ptrs sg).length = sg.length := by simp [ptrs]
  obtain ⟨dL, hL, hB, close⟩ := hD.open
  have hsl : Sl w (n.val (ptrs sg)) (ptrs sg) := Wn.sl hok hL (fun R hR => by simp [logR]; exact .inr (.inl hR))
  obtain ⟨va, vc, hv⟩ := hsl.shape
  rw [hps] at hv
  have hlC : logC d pre n sg af = [.pointer (some ⟨d, 0, none⟩), .string pre, .slice va sg.length vc, .int .i64 (af : Int)] := by rw [logC, hv]
  obtain ⟨X, hX⟩ : ∃ X, X = n.res (ptrs sg) ++ sg.flatMap Sg.res ++ F ++ dL := ⟨_, rfl⟩
  have hL2 : Sep Tryz.prog B w0 w (.blk l [.pointer (some ⟨d, 0, none⟩), .string pre, .slice va sg.length vc, .int .i64 (af : Int)] 65 :: X) := by
    rw [hX, ← hlC]; exact hL
  clear hL close
  obtain ⟨sgi, hsgi⟩ : ∃ f : Nat → List Sg, f = fun i => (sg.take i).map Sg.clean ++ sg.drop i := ⟨_, rfl⟩
  have hpi : ∀ i, ptrs (sgi i) = ptrs sg := fun i => by
    rw [hsgi]; simp only [ptrs, List.map_append, List.map_map]
    rw [show ((fun s : Sg => (Value.pointer (some ⟨s.b, 0, none⟩))) ∘ Sg.clean) = fun s => .pointer (some ⟨s.b, 0, none⟩) from rfl, ← List.map_append, List.take_append_drop]
  have hlen2 : ∀ i, (sgi i).length = sg.length := fun i => by have := congrArg List.length (hpi i); simpa [ptrs] using this
  obtain ⟨Si, hSi⟩ : ∃ f : Nat → List Fl, f = fun i => ((sg.take i).map Sg.wg).foldl (syncStep pre) S := ⟨_, rfl⟩
  have hD0 : DkS B w0 w d room (Si 0) (logR l d pre n (sgi 0) af ++ F) := by
    rw [hSi, hsgi]; simpa using hD
  clear hD
  refine Fn.mk Tryz.func11 rfl (by kernel_rfl) Tryz.ntmps11 rfl (by rw [Tryz.results11]) ?_
  have hL := hL2
  repeat (first | (refine RunH ?_; intro w hL hB; try clear w) | (refine Both.mk ?_ ?_ <;> conv => whnf) | fail)
  clear hL hB
  refine V.loop (α := Nat) (fun i => [(0, .pointer (some ⟨l, 0, none⟩)), (10, .slice va sg.length vc), (11, .int .i64 (sg.length : Int)), (12, .int .i64 (i : Int))])
    (fun i w' => i ≤ sg.length ∧ DkS B w0 w' d room (Si i) (logR l d pre n (sgi i) af ++ F))
    (fun i => sg.length - i) 0 ⟨rfl, rfl, rfl, rfl, trivial⟩ ⟨Nat.zero_le _, hD0⟩ ?_
  clear hD0 hL2 hX
  intro i w ⟨hi, hD⟩
  dsimp only
  by_cases hlt : i < sg.length
  · obtain ⟨A, s, C, hsg, hAl⟩ : ∃ A s C, sg = A ++ s :: C ∧ A.length = i := ⟨sg.take i, sg[i], sg.drop (i + 1), by rw [← List.drop_eq_getElem_cons hlt, List.take_append_drop], by rw [List.length_take]; omega⟩
    obtain ⟨e1, e2, e3, e4⟩ := syncAt (s := s) (C := C) hAl
    have hs0 : sgi i = A.map Sg.clean ++ s :: C := by rw [hsgi]; dsimp only; rw [hsg, e1, e2]
    have hs1 : sgi (i + 1) = A.map Sg.clean ++ s.clean :: C := by rw [hsgi]; dsimp only; rw [hsg, e3, e4]; simp
    have hSS : Si (i + 1) = syncStep pre (Si i) s.wg := by rw [hSi]; dsimp only; rw [hsg, e3, e1]; simp
    have hsf : s.first ≤ 99999999 := hfs s.wg (by rw [hsg]; simp)
    have hnm : (wnm pre s.first).size ≤ 1000000 := by rw [wnm_size hsf]; omega
    have hge : (ptrs sg)[i]? = some (.pointer (some ⟨s.b, 0, none⟩)) := by rw [hsg, ← hAl]; simp [ptrs]
    have hsl : Sl w (n.val (ptrs sg)) (ptrs sg) := by
      obtain ⟨dL, hL, hB, close⟩ := hD.open
      rw [← hpi i]
      exact Wn.sl (by rw [hpi]; exact hok) hL (fun R hR => by simp [logR]; exact .inr (.inl hR))
    rw [hv] at hsl
    obtain ⟨g, gO, rfl, hrow⟩ := hsl.addr (by omega)
    obtain ⟨dL, hL, hB, close⟩ := hD.open
    clear hD
    obtain ⟨W, hW⟩ : ∃ W, W = (n.res (ptrs sg) ++ ((A.map Sg.clean).flatMap Sg.res ++ ((s.eR :: s.xR :: s.es.map En.res) ++ C.flatMap Sg.res))) ++ F := ⟨_, rfl⟩
    have hlC2 : logC d pre n (sgi i) af = [.pointer (some ⟨d, 0, none⟩), .string pre, .slice (some ⟨g, gO, none⟩) sg.length vc, .int .i64 (af : Int)] := by rw [logC, hpi, hv]
    have hlC3 : logC d pre n (sgi (i + 1)) af = [.pointer (some ⟨d, 0, none⟩), .string pre, .slice (some ⟨g, gO, none⟩) sg.length vc, .int .i64 (af : Int)] := by rw [logC, hpi, hv]
    replace hL : Sep Tryz.prog B w0 w (.blk l [.pointer (some ⟨d, 0, none⟩), .string pre, .slice (some ⟨g, gO, none⟩) sg.length vc, .int .i64 (af : Int)] 65 :: .blk s.b [.int .i64 (s.first : Int), s.ev, s.xv, .bool s.dirty] 80 :: (W ++ dL)) := by
      rw [hW, ← hlC2]
      refine hL.perm ?_
      have h1 := perm_pick (.blk l (logC d pre n (sgi i) af) 65) s.hd (n.res (ptrs sg)) ((A.map Sg.clean).flatMap Sg.res) (s.eR :: s.xR :: s.es.map En.res) (C.flatMap Sg.res) F dL
      have h2 : logR l d pre n (sgi i) af ++ F ++ dL = ((.blk l (logC d pre n (sgi i) af) 65) :: (n.res (ptrs sg) ++ ((A.map Sg.clean).flatMap Sg.res ++ (s.hd :: (s.eR :: s.xR :: s.es.map En.res) ++ C.flatMap Sg.res)))) ++ F ++ dL := by
        rw [logR, hpi, hs0]; simp [Sg.res]
      rw [h2]
      exact h1
    have back : ∀ {w' : World} {S' : List Fl}, DkS B w0 w' d room S' (.blk l [.pointer (some ⟨d, 0, none⟩), .string pre, .slice (some ⟨g, gO, none⟩) sg.length vc, .int .i64 (af : Int)] 65 :: .blk s.b [.int .i64 (s.first : Int), s.ev, s.xv, .bool false] 80 :: W) → DkS B w0 w' d room S' (logR l d pre n (sgi (i + 1)) af ++ F) := fun h => by
      rw [hW, ← hlC3] at h
      refine h.perm ?_
      have h1 := perm_pick (.blk l (logC d pre n (sgi (i + 1)) af) 65) s.clean.hd (n.res (ptrs sg)) ((A.map Sg.clean).flatMap Sg.res) (s.eR :: s.xR :: s.es.map En.res) (C.flatMap Sg.res) F []
      have h2 : logR l d pre n (sgi (i + 1)) af ++ F = ((.blk l (logC d pre n (sgi (i + 1)) af) 65) :: (n.res (ptrs sg) ++ ((A.map Sg.clean).flatMap Sg.res ++ (s.clean.hd :: (s.eR :: s.xR :: s.es.map En.res) ++ C.flatMap Sg.res)))) ++ F ++ [] := by
        rw [logR, hpi, hs1]; simp [Sg.res, Sg.clean, Sg.eR, Sg.xR, Sg.xs]
      rw [h2]
      simpa [Sg.hd, Sg.cells, Sg.clean] using h1.symm
    generalize hsb : s.b = sb at *
    generalize hsd : s.dirty = sd at *
    have hwd : s.wg.dirty = sd := hsd
    repeat (first | (refine RunH ?_; intro w hL hB; try clear w) | (refine Both.mk ?_ ?_ <;> conv => whnf) | fail)
    intro o1 ho1
    conv => whnf
    refine Ld.row1 ttOk hrow rfl rfl hge (by omega) ?_
    conv => whnf
    cases sd with
    | true =>
      have hSS2 : Si (i + 1) = syncS (Si i) (wnm pre s.first) := by rw [hSS, syncStep, hwd]; rfl
      repeat (first | (refine RunH ?_; intro w hL hB; try clear w) | (refine Both.mk ?_ ?_ <;> conv => whnf) | fail)
      refine V.tree ttOk (fun x => Blk x l [.pointer (some ⟨d, 0, none⟩), .string pre, .slice (some ⟨g, gO, none⟩) sg.length vc, .int .i64 (af : Int)] 65 ∧ Blk x sb [.int .i64 (s.first : Int), s.ev, s.xv, .bool true] 80) (.q 0 (.q 1 (.q 2 (.q 3 (.q 4 (.q 5 (.q 6 (.q 7 (.q 8 (.alt 9 (.alt 10 .nil .stop) .stop)))))))))) mixed (by decide +kernel) ⟨hL.drew.hold _ (.head _), hL.drew.hold _ (.tail _ (.head _))⟩ ?_
      replace hL := hL.drew
      conv => whnf
      repeat' (first | (refine RunH ?_; intro w hL hB; try clear w) | (refine Br.dec (fun hbr => ?_) (fun hbr => ?_) <;> conv => whnf) | (refine Br.mk (fun hbr => ?_) (fun hbr => ?_) <;> conv => whnf) | (refine Both.mk ?_ ?_ <;> conv => whnf) | (refine Lq.of_class (fun x hx => Ld.blk ttOk rfl rfl hx.1 rfl rfl) ?_; conv => whnf) | (refine Lq.of_class (fun x hx => Ld.blk ttOk rfl rfl hx.2 rfl rfl) ?_; conv => whnf) | fail)
      refine (name_fn s.first hsf (by omega) _ (hL.hold _ (.head _)) (ht _ hL.below)).mono fun r w ⟨hr, hw⟩ => ?_
      subst hr
      replace hL := hL.call hB (Turns.of_below hw)
      replace hB := Nat.le_trans hB hw.size
      conv => whnf
      refine And.intro ⟨hL.hold _ (.head _), hL.hold _ (.tail _ (.head _))⟩ ?_
      conv => whnf
      refine (sync_fn (wnm pre s.first) hnm (close (F' := .blk l _ _ :: .blk sb _ _ :: W) hL hB)).mono fun r w ⟨hr, hD⟩ => ?_
      subst hr
      clear hL hB close
      obtain ⟨dL, hL, hB, close⟩ := hD.open
      clear hD
      conv => whnf
      refine And.intro ⟨hL.hold _ (.head _), hL.hold _ (.tail _ (.head _))⟩ ?_
      conv => whnf
      repeat (first | (refine RunH ?_; intro w hL hB; try clear w) | (refine Both.mk ?_ ?_ <;> conv => whnf) | fail)
      exact ⟨i + 1, ⟨rfl, rfl, rfl, vint (by push_cast; omega), trivial⟩, ⟨by omega, by rw [hSS2]; exact back (close (F' := .blk l _ _ :: .blk sb _ _ :: W) hL hB)⟩, (by first | omega | (dsimp only; omega))⟩
    | false =>
      have hSS2 : Si (i + 1) = Si i := by rw [hSS, syncStep, hwd]; rfl
      repeat (first | (refine RunH ?_; intro w hL hB; try clear w) | (refine Both.mk ?_ ?_ <;> conv => whnf) | fail)
      exact ⟨i + 1, ⟨rfl, rfl, rfl, vint (by push_cast; omega), trivial⟩, ⟨by omega, by rw [hSS2]; exact back (close (F' := .blk l _ _ :: .blk sb _ _ :: W) hL hB)⟩, (by first | omega | (dsimp only; omega))⟩
  · obtain rfl : i = sg.length := by omega
    have e1 : sgi sg.length = sg.map Sg.clean := by rw [hsgi]; dsimp only; rw [List.take_length, List.drop_length, List.append_nil]
    have e2 : Si sg.length = syncG pre S (sg.map Sg.wg) := by rw [hSi]; dsimp only; rw [List.take_length]; rfl
    have e3 := hpi sg.length
    rw [e1, e2] at hD
    rw [e1] at e3
    obtain ⟨dL, hL, hB, close⟩ := hD.open
    repeat (first | (refine RunH ?_; intro w hL hB; try clear w) | (refine Both.mk ?_ ?_ <;> conv => whnf) | fail)
    exact ⟨rfl, ⟨n, sg.map Sg.clean, by simp [Sg.wg, Sg.clean, Wg.clean, Function.comp_def], by rw [e3]; exact hok, close hL hB⟩⟩
end Go.Proofs.YtjafamiaahabgaaGreatDoor
namespace Go.Proofs.YtjafamiaahabgaaGreatDoor
open Go.RowKit Go.Lib
set_option linter.unusedVariables false
set_option linter.unusedSimpArgs false
set_option maxRecDepth 100000

def cmpW (x y : Int) : Int := if x < y then -1 else if y < x then 1 else 0
theorem isNaNw_fn (x : Int) (w : World) : Fn Tryz.prog 99 #[.int .i64 x] w fun r w' => r = .bool false ∧ w' = w := by
  refine Fn.mk Tryz.func99 rfl (by kernel_rfl) Tryz.ntmps99 rfl (by rw [Tryz.results99]) ?_
  refine RunR ?_
  exact ⟨by simp, rfl⟩
theorem compareW_fn (x y : Int) (w : World) : Fn Tryz.prog 74 #[.int .i64 x, .int .i64 y] w fun r w' => r = .int .i64 (cmpW x y) ∧ w' = w := by
  have hL := Sep.start Tryz.prog w
  have hB := Nat.le_refl w.heap.size
  refine Fn.mk Tryz.func74 rfl (by kernel_rfl) Tryz.ntmps74 rfl (by rw [Tryz.results74]) ?_
  by_cases h1 : x < y
  · repeat (first | (refine RunH ?_; intro w hL hB; try clear w) | (refine Both.mk ?_ ?_ <;> conv => whnf) | (refine (isNaNw_fn _ _).mono fun r w1 hr => ?_; obtain ⟨hr, hw⟩ := hr; subst hr; subst hw; conv => whnf) | fail)
    exact ⟨by simp [cmpW, h1], rfl⟩
  · by_cases h2 : y < x
    · repeat (first | (refine RunH ?_; intro w hL hB; try clear w) | (refine Both.mk ?_ ?_ <;> conv => whnf) | (refine (isNaNw_fn _ _).mono fun r w1 hr => ?_; obtain ⟨hr, hw⟩ := hr; subst hr; subst hw; conv => whnf) | fail)
      exact ⟨by simp [cmpW, h1, h2], rfl⟩
    · repeat (first | (refine RunH ?_; intro w hL hB; try clear w) | (refine Both.mk ?_ ?_ <;> conv => whnf) | (refine (isNaNw_fn _ _).mono fun r w1 hr => ?_; obtain ⟨hr, hw⟩ := hr; subst hr; subst hw; conv => whnf) | fail)
      exact ⟨by simp [cmpW, h1, h2], rfl⟩
theorem of1_fn {b : Nat} {f : Int} {c1 c2 c3 : Value} (key : Int) (w0 : World) (hC : Blk w0 b [.int .i64 f, c1, c2, c3] 80) : Fn Tryz.prog 73 #[.pointer (some ⟨b, 0, none⟩), .int .i64 key] w0 fun r w' => r = .int .i64 (cmpW f key) ∧ Below w0.heap.size w0 w' := by
  have hL := Sep.start Tryz.prog w0
  have hB := Nat.le_refl w0.heap.size
  refine Fn.mk Tryz.func73 rfl (by kernel_rfl) Tryz.ntmps73 rfl (by rw [Tryz.results73]) ?_
  repeat (first | (refine RunH ?_; intro w hL hB; try clear w) | (refine Both.mk ?_ ?_ <;> conv => whnf) | (refine (compareW_fn _ _ _).mono fun r w1 hr => ?_; obtain ⟨hr, hw⟩ := hr; subst hr; subst hw; conv => whnf) | fail)
  exact ⟨rfl, hL.below⟩
structure CutW (fs : List Nat) (key : Int) (i : Nat) : Prop where
  le : i ≤ fs.length
  low : ∀ (j f : Nat), j < i → fs[j]? = some f → (f : Int) < key
  high : ∀ (j f : Nat), i ≤ j → fs[j]? = some f → key ≤ (f : Int)
def risesW (fs : List Nat) : Prop := ∀ (x y p q : Nat), x < y → fs[x]? = some p → fs[y]? = some q → p < q
set_option maxHeartbeats 8000000 in
theorem bsearchW_fn (v : Value) (ps : List Value) (fs : List Nat) (key : Int) (hl : ps.length ≤ 1000000000) (hfl : fs.length = ps.length) (hrise : risesW fs) (w0 : World) (hs : Sl w0 v ps)
    (hb : ∀ (k f : Nat), fs[k]? = some f → ∃ b c1 c2 c3, ps[k]? = some (.pointer (some ⟨b, 0, none⟩)) ∧ Blk w0 b [.int .i64 (f : Int), c1, c2, c3] 80) :
    Fn Tryz.prog 72 #[v, .int .i64 key, .func (.func 73) #[] #[]] w0 fun r w' => (∃ i b, CutW fs key i ∧ r = .tuple #[.int .i64 (i : Int), .bool b] ∧ (b = true ↔ ∃ f : Nat, fs[i]? = some f ∧ (f : Int) = key)) ∧ Below w0.heap.size w0 w' := by
  obtain ⟨a, c, rfl⟩ := hs.shape
  have hL := Sep.start Tryz.prog w0
  have hB := Nat.le_refl w0.heap.size
  refine Fn.mk Tryz.func72 rfl (by kernel_rfl) Tryz.ntmps72 rfl (by rw [Tryz.results72]) ?_
  repeat (first | (refine RunH ?_; intro w hL hB; try clear w) | (refine Both.mk ?_ ?_ <;> conv => whnf) | fail)
  refine V.loop (α := Nat × Nat) (fun z => [(0, .slice a ps.length c), (1, .int .i64 key), (2, .func (.func 73) #[] #[]), (8, .int .i64 (ps.length : Int)), (9, .int .i64 (z.1 : Int)), (10, .int .i64 (z.2 : Int))])
    (fun z w' => z.1 ≤ z.2 ∧ z.2 ≤ fs.length ∧ (∀ j f : Nat, j < z.1 → fs[j]? = some f → (f : Int) < key) ∧ (∀ j f : Nat, z.2 ≤ j → fs[j]? = some f → key ≤ (f : Int)) ∧ w0.heap.size ≤ w'.heap.size ∧ Sep Tryz.prog w0.heap.size w0 w' [])
    (fun z => z.2 - z.1) (0, ps.length) ⟨rfl, rfl, rfl, rfl, rfl, rfl, trivial⟩ ⟨by simp, by dsimp only; omega, fun j f h => absurd h (by simp), fun j f h hj => by have := (List.getElem?_eq_some_iff.1 hj).1; dsimp only at h; omega, hB, hL⟩ ?_
  clear hL hB
  rintro ⟨i, j⟩ w ⟨hij, hjl, hlow, hhigh, hB, hL⟩
  dsimp only at *
  repeat (first | (refine RunH ?_; intro w hL hB; try clear w) | (refine Both.mk ?_ ?_ <;> conv => whnf) | fail)
  refine Br.dec (fun hlt => ?_) (fun hlt => ?_)
  · have hlt' : i < j := by omega
    obtain ⟨b1, o1, rfl, _⟩ := hs.addr (by omega)
    have hrow : ∀ {w'}, Below w0.heap.size w0 w' → Row w' b1 o1 ps := fun h => (hs.below h).rowOf'
    repeat (first | (refine RunH ?_; intro w hL hB; try clear w) | (refine Both.mk ?_ ?_ <;> conv => whnf) | fail)
    refine Shr.u64 (i + j) 1 2 (by push_cast; rfl) rfl (by decide) (by decide) ?_
    conv => whnf
    repeat (first | (refine RunH ?_; intro w hL hB; try clear w) | (refine Both.mk ?_ ?_ <;> conv => whnf) | fail)
    generalize hm : (i + j) / 2 = m at *
    have g := List.getElem?_eq_getElem (show m < fs.length by omega)
    generalize hp : fs[m]'(by omega) = p at *
    obtain ⟨b, d1, d2, d3, hg, hbk⟩ := hb m p g
    intro o2 ho2
    conv => whnf
    refine Ld.row1 ttOk (hrow hL.below) rfl rfl hg (by omega) ?_
    conv => whnf
    repeat (first | (refine RunH ?_; intro w hL hB; try clear w) | (refine Both.mk ?_ ?_ <;> conv => whnf) | fail)
    refine (of1_fn key w (hbk.below hL.below hbk.lt)).mono fun r w ⟨hr, hw⟩ => ?_
    subst hr
    replace hL := hL.call hB (Turns.of_below hw)
    replace hB := Nat.le_trans hB hw.size
    conv => whnf
    by_cases hc : (p : Int) < key
    · rw [show cmpW p key = -1 from if_pos hc]
      repeat (first | (refine RunH ?_; intro w hL hB; try clear w) | (refine Both.mk ?_ ?_ <;> conv => whnf) | fail)
      refine ⟨(m + 1, j), ⟨rfl, rfl, rfl, rfl, vint (by push_cast; omega), rfl, trivial⟩, ⟨by dsimp only; omega, hjl, fun x q hx hq => ?_, hhigh, hB, hL⟩, (by first | omega | (dsimp only; omega))⟩
      by_cases hxm : x = m
      · subst hxm; rw [g] at hq; injection hq with hq; subst hq; exact hc
      · have := hrise x m q p (by dsimp only at hx; omega) hq g; omega
    · have hcm : ¬ cmpW p key < 0 := by
        unfold cmpW
        rw [if_neg hc]
        split <;> omega
      repeat (first | (refine RunH ?_; intro w hL hB; try clear w) | (refine Both.mk ?_ ?_ <;> conv => whnf) | fail)
      refine ⟨(i, m), ⟨rfl, rfl, rfl, rfl, rfl, rfl, trivial⟩, ⟨by dsimp only; omega, by dsimp only; omega, hlow, fun x q hx hq => ?_, hB, hL⟩, (by first | omega | (dsimp only; omega))⟩
      by_cases hxm : x = m
      · subst hxm; rw [g] at hq; injection hq with hq; subst hq; omega
      · have := hrise m x p q (by dsimp only at hx; omega) g hq; omega
  · obtain rfl : i = j := by omega
    have hcut : CutW fs key i := ⟨hjl, hlow, hhigh⟩
    by_cases hil : i < ps.length
    · obtain ⟨b1, o1, rfl, _⟩ := hs.addr (by omega)
      have hrow : ∀ {w'}, Below w0.heap.size w0 w' → Row w' b1 o1 ps := fun h => (hs.below h).rowOf'
      have g := List.getElem?_eq_getElem (show i < fs.length by omega)
      generalize hp : fs[i]'(by omega) = p at *
      obtain ⟨b, d1, d2, d3, hg, hbk⟩ := hb i p g
      repeat (first | (refine RunH ?_; intro w hL hB; try clear w) | (refine Both.mk ?_ ?_ <;> conv => whnf) | fail)
      intro o2 ho2
      conv => whnf
      repeat (first | (refine RunH ?_; intro w hL hB; try clear w) | (refine Both.mk ?_ ?_ <;> conv => whnf) | fail)
      refine Ld.row1 ttOk (hrow hL.below) rfl rfl hg (by omega) ?_
      conv => whnf
      repeat (first | (refine RunH ?_; intro w hL hB; try clear w) | (refine Both.mk ?_ ?_ <;> conv => whnf) | fail)
      refine (of1_fn key w (hbk.below hL.below hbk.lt)).mono fun r w ⟨hr, hw⟩ => ?_
      subst hr
      replace hL := hL.call hB (Turns.of_below hw)
      replace hB := Nat.le_trans hB hw.size
      conv => whnf
      repeat (first | (refine RunH ?_; intro w hL hB; try clear w) | (refine Both.mk ?_ ?_ <;> conv => whnf) | fail)
      refine ⟨⟨i, _, hcut, rfl, ?_⟩, hL.below⟩
      rw [decide_eq_true_eq]
      have := hhigh i p (Nat.le_refl _) g
      constructor
      · intro h
        refine ⟨p, g, ?_⟩
        unfold cmpW at h
        split at h
        · omega
        · split at h
          · omega
          · omega
      · rintro ⟨q, hq, hqk⟩
        rw [g] at hq; injection hq with hq; subst hq
        simp [cmpW, hqk]
    · repeat (first | (refine RunH ?_; intro w hL hB; try clear w) | (refine Both.mk ?_ ?_ <;> conv => whnf) | fail)
      refine ⟨⟨i, _, hcut, rfl, ?_⟩, hL.below⟩
      simp only [Bool.false_eq_true, false_iff]
      rintro ⟨q, hq, _⟩
      have := (List.getElem?_eq_some_iff.1 hq).1
      omega
/-- the segment that has an entry's number -/
def findSg (sg : List Sg) (i : Int) : Option Sg := sg.find? fun s => decide ((s.first : Int) ≤ i ∧ i < (s.first + s.es.length : Nat))
def apart (sg : List Sg) : Prop := ∀ (x y : Nat) (p q : Sg), x < y → sg[x]? = some p → sg[y]? = some q → p.first < q.first ∧ p.first + p.es.length ≤ q.first
theorem findSg_hit {sg : List Sg} (ha : apart sg) {i : Int} {k : Nat} {s : Sg} (hs : sg[k]? = some s) (h1 : (s.first : Int) ≤ i) (h2 : i < (s.first + s.es.length : Nat)) : findSg sg i = some s := by
  have hlt := (List.getElem?_eq_some_iff.1 hs).1
  have hsg : sg = sg.take k ++ s :: sg.drop (k + 1) := by rw [← (List.getElem?_eq_some_iff.1 hs).2, ← List.drop_eq_getElem_cons hlt, List.take_append_drop]
  unfold findSg
  rw [hsg, List.find?_append, List.find?_eq_none.2]
  · simp [h1]; omega
  · intro q hq
    obtain ⟨j, hj⟩ := List.getElem?_of_mem hq
    rw [List.getElem?_take] at hj
    split at hj
    · have := ha j k q s (by assumption) hj hs
      simp; omega
    · cases hj
theorem findSg_none {sg : List Sg} {i : Int} (h : ∀ (k : Nat) (s : Sg), sg[k]? = some s → i < s.first ∨ (s.first + s.es.length : Nat) ≤ i) : findSg sg i = none := by
  unfold findSg
  rw [List.find?_eq_none]
  intro q hq
  obtain ⟨j, hj⟩ := List.getElem?_of_mem hq
  have := h j q hj
  simp; omega
theorem apart_rises {sg : List Sg} (ha : apart sg) : risesW (sg.map Sg.first) := by
  intro x y p q hxy hp hq
  rw [List.getElem?_map] at hp hq
  obtain ⟨a, ha1, rfl⟩ := Option.map_eq_some_iff.1 hp
  obtain ⟨b, hb1, rfl⟩ := Option.map_eq_some_iff.1 hq
  exact (ha x y a b hxy ha1 hb1).1
def ptrO (o : Option Sg) : Value := match o with
  | none => .pointer none
  | some s => .pointer (some ⟨s.b, 0, none⟩)
set_option maxHeartbeats 8000000 in
theorem logOf_fn {l : Nat} {c0 c1 c3 sv : Value} {sg : List Sg} (i : Int) (hi : -9223372036854775807 ≤ i ∧ i ≤ 9223372036854775807) (ha : apart sg) (hlen : sg.length ≤ 1000000000) (hfs : ∀ s ∈ sg, s.first ≤ 4000000000 ∧ s.es.length ≤ 4000000000) (w0 : World) (hC : Blk w0 l [c0, c1, sv, c3] 65) (hS : Sl w0 sv (ptrs sg))
    (hb : ∀ s ∈ sg, Blk w0 s.b [.int .i64 (s.first : Int), s.ev, s.xv, .bool s.dirty] 80 ∧ Sl w0 s.ev (s.es.map En.v)) :
    Fn Tryz.prog 38 #[.pointer (some ⟨l, 0, none⟩), .int .i64 i] w0 fun r w' => r = ptrO (findSg sg i) ∧ Below w0.heap.size w0 w' := by
  have hps : (ptrs sg).length = sg.length := by simp [ptrs]
  obtain ⟨sa, sc, rfl⟩ := hS.shape
  have hL := Sep.start Tryz.prog w0
  have hB := Nat.le_refl w0.heap.size
  have hC2 : ∀ x, Below w0.heap.size w0 x → Blk x l _ 65 := fun x h => hC.below h hC.lt
  have hS2 : ∀ x, Below w0.heap.size w0 x → Sl x _ (ptrs sg) := fun x h => hS.below h
  refine Fn.mk Tryz.func38 rfl (by kernel_rfl) Tryz.ntmps38 rfl (by rw [Tryz.results38]) ?_
  repeat (first | (refine RunH ?_; intro w hL hB; try clear w) | (refine Both.mk ?_ ?_ <;> conv => whnf) | fail)
  refine (bsearchW_fn _ (ptrs sg) (sg.map Sg.first) i (by omega) (by rw [hps, List.length_map]) (apart_rises ha) w0 hS (fun k f hf => by
    rw [List.getElem?_map] at hf
    obtain ⟨s, hs, rfl⟩ := Option.map_eq_some_iff.1 hf
    exact ⟨s.b, _, _, _, by rw [ptrs, List.getElem?_map, hs]; rfl, (hb s (List.mem_of_getElem? hs)).1⟩)).mono fun r w ⟨⟨c, b, hcut, hr, hbi⟩, hw⟩ => ?_
  subst hr
  replace hL := hL.call hB (Turns.of_below hw)
  replace hB := Nat.le_trans hB hw.size
  have hcl := hcut.le
  rw [List.length_map] at hcl
  rw [hps] at *
  -- the segment that may have it: number m - 1
  obtain ⟨m, hm⟩ : ∃ m : Nat, m = if b then c + 1 else c := ⟨_, rfl⟩
  have hml : m ≤ sg.length := by
    rw [hm]
    split
    · rename_i hbt
      obtain ⟨f, hf, _⟩ := hbi.1 hbt
      have := (List.getElem?_eq_some_iff.1 hf).1
      rw [List.length_map] at this
      omega
    · exact hcl
  have hlow : ∀ (k : Nat) (s : Sg), k < m → sg[k]? = some s → (s.first : Int) ≤ i := fun k s hk hs => by
    by_cases hkc : k < c
    · have := hcut.low k s.first hkc (by rw [List.getElem?_map, hs]; rfl); omega
    · rw [hm] at hk
      split at hk
      · rename_i hbt
        obtain ⟨f, hf, hfi⟩ := hbi.1 hbt
        obtain rfl : k = c := by omega
        rw [List.getElem?_map, hs] at hf
        injection hf with hf
        omega
      · omega
  have hhigh : ∀ (k : Nat) (s : Sg), m ≤ k → sg[k]? = some s → i < (s.first : Int) := fun k s hk hs => by
    have h1 := hcut.high k s.first (by rw [hm] at hk; split at hk <;> omega) (by rw [List.getElem?_map, hs]; rfl)
    rcases Int.lt_or_eq_of_le h1 with h | h
    · exact h
    · exfalso
      by_cases hkc : k = c
      · subst hkc
        have : b = true := hbi.2 ⟨s.first, by rw [List.getElem?_map, hs]; rfl, h.symm⟩
        rw [hm, if_pos this] at hk; omega
      · have hck : c < k := by rw [hm] at hk; split at hk <;> omega
        have hlt := (List.getElem?_eq_some_iff.1 hs).1
        have g := List.getElem?_eq_getElem (show c < sg.length by omega)
        have := hcut.high c (sg[c]'(by omega)).first (Nat.le_refl _) (by rw [List.getElem?_map, g]; rfl)
        have := (ha c k _ s hck g hs).1
        omega
  have hnil : m = 0 → findSg sg i = none := fun h0 => findSg_none fun k s hs => .inl (hhigh k s (by omega) hs)
  conv => whnf
  refine V.seq ?_
  refine V.join (α := Unit) (fun _ => [(0, .pointer (some ⟨l, 0, none⟩)), (1, .int .i64 i), (5, .int .i64 ((m : Int) - 1))]) (fun _ w' => w' = w) ?_ ?_
  · cases b with
    | true =>
      have hmc : m = c + 1 := by rw [hm]; rfl
      repeat (first | (refine RunH ?_; intro w hL hB; try clear w) | (refine Both.mk ?_ ?_ <;> conv => whnf) | fail)
      exact ⟨(), ⟨rfl, rfl, vint (by omega), trivial⟩, rfl⟩
    | false =>
      have hmc : m = c := by rw [hm]; rfl
      repeat (first | (refine RunH ?_; intro w hL hB; try clear w) | (refine Both.mk ?_ ?_ <;> conv => whnf) | fail)
      exact ⟨(), ⟨rfl, rfl, vint (by omega), trivial⟩, rfl⟩
  rintro _ w1 hw1
  rw [hw1]
  clear hw1 w1
  by_cases h0 : m = 0
  · rw [hnil h0]
    have hm1 : (m : Int) - 1 < 0 := by omega
    repeat (first | (refine RunH ?_; intro w hL hB; try clear w) | (refine Both.mk ?_ ?_ <;> conv => whnf) | fail)
    exact ⟨rfl, hL.below⟩
  have hlt : m - 1 < sg.length := by omega
  have g := List.getElem?_eq_getElem hlt
  generalize hsd : sg[m - 1] = s at *
  have hsm : s ∈ sg := hsd ▸ List.getElem_mem hlt
  obtain ⟨hbk, hev⟩ := hb s hsm
  have hf := hfs s hsm
  have hgp : (ptrs sg)[m - 1]? = some (.pointer (some ⟨s.b, 0, none⟩)) := by rw [ptrs, List.getElem?_map, g]; rfl
  obtain ⟨b1, o1, rfl, _⟩ := hS.addr (by omega)
  have hrow : ∀ {w'}, Below w0.heap.size w0 w' → Row w' b1 o1 (ptrs sg) := fun h => (hS2 _ h).rowOf'
  repeat (first | (refine RunH ?_; intro w hL hB; try clear w) | (refine Both.mk ?_ ?_ <;> conv => whnf) | fail)
  intro o2 ho2
  conv => whnf
  repeat (first | (refine RunH ?_; intro w hL hB; try clear w) | (refine Both.mk ?_ ?_ <;> conv => whnf) | fail)
  refine Ld.row1 ttOk (hrow hL.below) rfl rfl hgp (by omega) ?_
  conv => whnf
  repeat (first | (refine RunH ?_; intro w hL hB; try clear w) | (refine Both.mk ?_ ?_ <;> conv => whnf) | fail)
  refine (segNext_fn w (hbk.below hL.below hbk.lt) (hev.below hL.below) hf.1 (by rw [List.length_map]; exact hf.2)).mono fun r w ⟨hr, hw⟩ => ?_
  subst hr
  replace hL := hL.call hB (Turns.of_below hw)
  replace hB := Nat.le_trans hB hw.size
  rw [List.length_map]
  have hsl := hlow (m - 1) s (by omega) g
  by_cases hin : i < ((s.first + s.es.length : Nat) : Int)
  · rw [findSg_hit ha g hsl hin]
    conv => whnf
    repeat (first | (refine RunH ?_; intro w hL hB; try clear w) | (refine Both.mk ?_ ?_ <;> conv => whnf) | fail)
    intro o3 ho3
    conv => whnf
    repeat (first | (refine RunH ?_; intro w hL hB; try clear w) | (refine Both.mk ?_ ?_ <;> conv => whnf) | fail)
    refine Ld.row1 ttOk (hrow hL.below) rfl rfl hgp (by omega) ?_
    conv => whnf
    repeat (first | (refine RunH ?_; intro w hL hB; try clear w) | (refine Both.mk ?_ ?_ <;> conv => whnf) | fail)
    exact ⟨rfl, hL.below⟩
  · rw [findSg_none fun k q hq => by
      by_cases hk : k < m - 1
      · have := (ha k (m - 1) q s hk hq g).2; right; omega
      · by_cases hk2 : k = m - 1
        · subst hk2; rw [g] at hq; injection hq with hq; subst hq; right; omega
        · left; exact hhigh k q (by omega) hq]
    conv => whnf
    repeat (first | (refine RunH ?_; intro w hL hB; try clear w) | (refine Both.mk ?_ ?_ <;> conv => whnf) | fail)
    exact ⟨rfl, hL.below⟩
end Go.Proofs.YtjafamiaahabgaaGreatDoor
