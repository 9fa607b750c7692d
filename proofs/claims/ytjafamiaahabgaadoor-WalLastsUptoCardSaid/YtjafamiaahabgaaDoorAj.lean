/- wal: Sync. Nothing is claimed here. -/
import Derived.Test.YtjafamiaahabgaaDoorAh
namespace Go.Proofs.YtjafamiaahabgaaDoor
open Go.RowKit Go.Lib
set_option linter.unusedVariables false
set_option linter.unusedSimpArgs false
set_option maxRecDepth 100000

def Wg.clean (g : Wg) : Wg := { g with dirty := false }
def Sg.clean (s : Sg) : Sg := { s with dirty := false }
def syncStep (pre : ByteArray) (S : List Fl) (g : Wg) : List Fl := if g.dirty then syncS S (wnm pre g.first) else S
def syncG (pre : ByteArray) (S : List Fl) (G : List Wg) : List Fl := G.foldl (syncStep pre) S
theorem perm_pick {α : Type} (l h : α) (N Y1 R Y2 Fr D : List α) : ((l :: (N ++ (Y1 ++ (h :: R ++ Y2)))) ++ Fr ++ D).Perm (l :: h :: ((N ++ (Y1 ++ (R ++ Y2))) ++ Fr ++ D)) := by
  rw [List.cons_append, List.cons_append]
  refine List.Perm.cons _ ?_
  have h1 := List.perm_middle (a := h) (l₁ := N ++ Y1) (l₂ := R ++ Y2 ++ Fr ++ D)
  simpa using h1
theorem syncAt {A C : List Sg} {s : Sg} {i : Nat} (hi : A.length = i) : (A ++ s :: C).take i = A ∧ (A ++ s :: C).drop i = s :: C ∧ (A ++ s :: C).take (i + 1) = A ++ [s] ∧ (A ++ s :: C).drop (i + 1) = C := by
  subst hi
  refine ⟨List.take_left' rfl, List.drop_left' rfl, ?_, ?_⟩
  · rw [show A ++ s :: C = (A ++ [s]) ++ C by simp, List.take_left' (by simp)]
  · rw [show A ++ s :: C = (A ++ [s]) ++ C by simp, List.drop_left' (by simp)]
set_option maxHeartbeats 4000000 in
theorem logSync_fn {B d l room : Nat} {pre : ByteArray} {S : List Fl} {G : List Wg} {af : Nat} {F : List Res} (hp : 1 ≤ pre.size ∧ pre.size ≤ 55) {w0 w : World} (ht : TabW B w0) (hlen : G.length ≤ 1000000000) (hfs : ∀ g ∈ G, g.first ≤ 99999999) (hG : LgS B w0 w d l pre room S G af F) :
    Fn Tryd.prog 6 #[.pointer (some ⟨l, 0, none⟩)] w fun r w' => r = .int .i64 0 ∧ LgS B w0 w' d l pre room (syncG pre S G) (G.map Wg.clean) af F := by
  obtain ⟨n, sg, rfl, hok, hD⟩ := hG.of
  clear hG
  rw [List.length_map] at hlen
  have hps : (ptrs sg).length = sg.length := by simp [ptrs]
  obtain ⟨dL, hL, hB, close⟩ := hD.open
  have hsl : Sl w (n.val (ptrs sg)) (ptrs sg) := Wn.sl hok hL (fun R hR => by simp [logR]; exact .inr (.inl hR))
  obtain ⟨va, vc, hv⟩ := hsl.shape
  rw [hps] at hv
  have hlC : logC d pre n sg af = [.pointer (some ⟨d, 0, none⟩), .string pre, .slice va sg.length vc, .int .i64 (af : Int)] := by rw [logC, hv]
  obtain ⟨X, hX⟩ : ∃ X, X = n.res (ptrs sg) ++ sg.flatMap Sg.res ++ F ++ dL := ⟨_, rfl⟩
  have hL2 : Sep Tryd.prog B w0 w (.blk l [.pointer (some ⟨d, 0, none⟩), .string pre, .slice va sg.length vc, .int .i64 (af : Int)] 47 :: X) := by
    rw [hX, ← hlC]; exact hL
  clear hL close
  obtain ⟨sgi, hsgi⟩ : ∃ f : Nat → List Sg, f = fun i => (sg.take i).map Sg.clean ++ sg.drop i := ⟨_, rfl⟩
  have hpi : ∀ i, ptrs (sgi i) = ptrs sg := fun i => by
    rw [hsgi]; simp only [ptrs, List.map_append, List.map_map]
    rw [show ((fun s : Sg => (Value.pointer (some ⟨s.b, 0, none⟩))) ∘ Sg.clean) = fun s => .pointer (some ⟨s.b, 0, none⟩) from rfl, ← List.map_append, List.take_append_drop]
  have hlen2 : ∀ i, (sgi i).length = sg.length := fun i => by have := congrArg List.length (hpi i); simpa [ptrs] using this
  obtain ⟨Si, hSi⟩ : ∃ f : Nat → List Fl, f = fun i => ((sg.take i).map Sg.wg).foldl (syncStep pre) S := ⟨_, rfl⟩
  have hD0 : DkS B w0 w d room (Si 0) (logR l d pre n (sgi 0) af ++ F) := by
    rw [hSi, hsgi]; simpa using hD
  clear hD
  refine Fn.mk Tryd.func6 rfl (by kernel_rfl) Tryd.ntmps6 rfl (by rw [Tryd.results6]) ?_
  have hL := hL2
  repeat (first | (refine RunH ?_; intro w hL hB; try clear w) | (refine Both.mk ?_ ?_ <;> conv => whnf) | fail)
  clear hL hB
  refine V.loop (α := Nat) (fun i => [(0, .pointer (some ⟨l, 0, none⟩)), (10, .slice va sg.length vc), (11, .int .i64 (sg.length : Int)), (12, .int .i64 (i : Int))])
    (fun i w' => i ≤ sg.length ∧ DkS B w0 w' d room (Si i) (logR l d pre n (sgi i) af ++ F))
    (fun i => sg.length - i) 0 ⟨rfl, rfl, rfl, rfl, trivial⟩ ⟨Nat.zero_le _, hD0⟩ ?_
  clear hD0 hL2 hX
  intro i w ⟨hi, hD⟩
  dsimp only
  by_cases hlt : i < sg.length
  · obtain ⟨A, s, C, hsg, hAl⟩ : ∃ A s C, sg = A ++ s :: C ∧ A.length = i := ⟨sg.take i, sg[i], sg.drop (i + 1), by rw [← List.drop_eq_getElem_cons hlt, List.take_append_drop], by rw [List.length_take]; omega⟩
    obtain ⟨e1, e2, e3, e4⟩ := syncAt (s := s) (C := C) hAl
    have hs0 : sgi i = A.map Sg.clean ++ s :: C := by rw [hsgi]; dsimp only; rw [hsg, e1, e2]
    have hs1 : sgi (i + 1) = A.map Sg.clean ++ s.clean :: C := by rw [hsgi]; dsimp only; rw [hsg, e3, e4]; simp
    have hSS : Si (i + 1) = syncStep pre (Si i) s.wg := by rw [hSi]; dsimp only; rw [hsg, e3, e1]; simp
    have hsf : s.first ≤ 99999999 := hfs s.wg (by rw [hsg]; simp)
    have hnm : (wnm pre s.first).size ≤ 1000000 := by rw [wnm_size hsf]; omega
    have hge : (ptrs sg)[i]? = some (.pointer (some ⟨s.b, 0, none⟩)) := by rw [hsg, ← hAl]; simp [ptrs]
    have hsl : Sl w (n.val (ptrs sg)) (ptrs sg) := by
      obtain ⟨dL, hL, hB, close⟩ := hD.open
      rw [← hpi i]
      exact Wn.sl (by rw [hpi]; exact hok) hL (fun R hR => by simp [logR]; exact .inr (.inl hR))
    rw [hv] at hsl
    obtain ⟨g, gO, rfl, hrow⟩ := hsl.addr (by omega)
    obtain ⟨dL, hL, hB, close⟩ := hD.open
    clear hD
    obtain ⟨W, hW⟩ : ∃ W, W = (n.res (ptrs sg) ++ ((A.map Sg.clean).flatMap Sg.res ++ ((s.eR :: s.xR :: s.es.map En.res) ++ C.flatMap Sg.res))) ++ F := ⟨_, rfl⟩
    have hlC2 : logC d pre n (sgi i) af = [.pointer (some ⟨d, 0, none⟩), .string pre, .slice (some ⟨g, gO, none⟩) sg.length vc, .int .i64 (af : Int)] := by rw [logC, hpi, hv]
    have hlC3 : logC d pre n (sgi (i + 1)) af = [.pointer (some ⟨d, 0, none⟩), .string pre, .slice (some ⟨g, gO, none⟩) sg.length vc, .int .i64 (af : Int)] := by rw [logC, hpi, hv]
    replace hL : Sep Tryd.prog B w0 w (.blk l [.pointer (some ⟨d, 0, none⟩), .string pre, .slice (some ⟨g, gO, none⟩) sg.length vc, .int .i64 (af : Int)] 47 :: .blk s.b [.int .i64 (s.first : Int), s.ev, s.xv, .bool s.dirty] 57 :: (W ++ dL)) := by
      rw [hW, ← hlC2]
      refine hL.perm ?_
      have h1 := perm_pick (.blk l (logC d pre n (sgi i) af) 47) s.hd (n.res (ptrs sg)) ((A.map Sg.clean).flatMap Sg.res) (s.eR :: s.xR :: s.es.map En.res) (C.flatMap Sg.res) F dL
      have h2 : logR l d pre n (sgi i) af ++ F ++ dL = ((.blk l (logC d pre n (sgi i) af) 47) :: (n.res (ptrs sg) ++ ((A.map Sg.clean).flatMap Sg.res ++ (s.hd :: (s.eR :: s.xR :: s.es.map En.res) ++ C.flatMap Sg.res)))) ++ F ++ dL := by
        rw [logR, hpi, hs0]; simp [Sg.res]
      rw [h2]
      exact h1
    have back : ∀ {w' : World} {S' : List Fl}, DkS B w0 w' d room S' (.blk l [.pointer (some ⟨d, 0, none⟩), .string pre, .slice (some ⟨g, gO, none⟩) sg.length vc, .int .i64 (af : Int)] 47 :: .blk s.b [.int .i64 (s.first : Int), s.ev, s.xv, .bool false] 57 :: W) → DkS B w0 w' d room S' (logR l d pre n (sgi (i + 1)) af ++ F) := fun h => by
      rw [hW, ← hlC3] at h
      refine h.perm ?_
      have h1 := perm_pick (.blk l (logC d pre n (sgi (i + 1)) af) 47) s.clean.hd (n.res (ptrs sg)) ((A.map Sg.clean).flatMap Sg.res) (s.eR :: s.xR :: s.es.map En.res) (C.flatMap Sg.res) F []
      have h2 : logR l d pre n (sgi (i + 1)) af ++ F = ((.blk l (logC d pre n (sgi (i + 1)) af) 47) :: (n.res (ptrs sg) ++ ((A.map Sg.clean).flatMap Sg.res ++ (s.clean.hd :: (s.eR :: s.xR :: s.es.map En.res) ++ C.flatMap Sg.res)))) ++ F ++ [] := by
        rw [logR, hpi, hs1]; simp [Sg.res, Sg.clean, Sg.eR, Sg.xR, Sg.xs]
      rw [h2]
      simpa [Sg.hd, Sg.cells, Sg.clean] using h1.symm
    generalize hsb : s.b = sb at *
    generalize hsd : s.dirty = sd at *
    have hwd : s.wg.dirty = sd := hsd
    repeat (first | (refine RunH ?_; intro w hL hB; try clear w) | (refine Both.mk ?_ ?_ <;> conv => whnf) | fail)
    intro o1 ho1
    conv => whnf
    refine Ld.row1 ttOk hrow rfl rfl hge (by omega) ?_
    conv => whnf
    cases sd with
    | true =>
      have hSS2 : Si (i + 1) = syncS (Si i) (wnm pre s.first) := by rw [hSS, syncStep, hwd]; rfl
      repeat (first | (refine RunH ?_; intro w hL hB; try clear w) | (refine Both.mk ?_ ?_ <;> conv => whnf) | fail)
      refine V.tree ttOk (fun x => Blk x l [.pointer (some ⟨d, 0, none⟩), .string pre, .slice (some ⟨g, gO, none⟩) sg.length vc, .int .i64 (af : Int)] 47 ∧ Blk x sb [.int .i64 (s.first : Int), s.ev, s.xv, .bool true] 57) (.q 0 (.q 1 (.q 2 (.q 3 (.q 4 (.q 5 (.q 6 (.q 7 (.q 8 (.alt 9 (.alt 10 .nil .stop) .stop)))))))))) mixed (by decide +kernel) ⟨hL.drew.hold _ (.head _), hL.drew.hold _ (.tail _ (.head _))⟩ ?_
      replace hL := hL.drew
      conv => whnf
      repeat' (first | (refine RunH ?_; intro w hL hB; try clear w) | (refine Br.dec (fun hbr => ?_) (fun hbr => ?_) <;> conv => whnf) | (refine Br.mk (fun hbr => ?_) (fun hbr => ?_) <;> conv => whnf) | (refine Both.mk ?_ ?_ <;> conv => whnf) | (refine Lq.of_class (fun x hx => Ld.blk ttOk rfl rfl hx.1 rfl rfl) ?_; conv => whnf) | (refine Lq.of_class (fun x hx => Ld.blk ttOk rfl rfl hx.2 rfl rfl) ?_; conv => whnf) | fail)
      refine (name_fn s.first hsf (by omega) _ (hL.hold _ (.head _)) (ht _ hL.below)).mono fun r w ⟨hr, hw⟩ => ?_
      subst hr
      replace hL := hL.call hB (Turns.of_below hw)
      replace hB := Nat.le_trans hB hw.size
      conv => whnf
      refine And.intro ⟨hL.hold _ (.head _), hL.hold _ (.tail _ (.head _))⟩ ?_
      conv => whnf
      refine (sync_fn (wnm pre s.first) hnm (close (F' := .blk l _ _ :: .blk sb _ _ :: W) hL hB)).mono fun r w ⟨hr, hD⟩ => ?_
      subst hr
      clear hL hB close
      obtain ⟨dL, hL, hB, close⟩ := hD.open
      clear hD
      conv => whnf
      refine And.intro ⟨hL.hold _ (.head _), hL.hold _ (.tail _ (.head _))⟩ ?_
      conv => whnf
      repeat (first | (refine RunH ?_; intro w hL hB; try clear w) | (refine Both.mk ?_ ?_ <;> conv => whnf) | fail)
      exact ⟨i + 1, ⟨rfl, rfl, rfl, vint (by push_cast; omega), trivial⟩, ⟨by omega, by rw [hSS2]; exact back (close (F' := .blk l _ _ :: .blk sb _ _ :: W) hL hB)⟩, (by first | omega | (dsimp only; omega))⟩
    | false =>
      have hSS2 : Si (i + 1) = Si i := by rw [hSS, syncStep, hwd]; rfl
      repeat (first | (refine RunH ?_; intro w hL hB; try clear w) | (refine Both.mk ?_ ?_ <;> conv => whnf) | fail)
      exact ⟨i + 1, ⟨rfl, rfl, rfl, vint (by push_cast; omega), trivial⟩, ⟨by omega, by rw [hSS2]; exact back (close (F' := .blk l _ _ :: .blk sb _ _ :: W) hL hB)⟩, (by first | omega | (dsimp only; omega))⟩
  · obtain rfl : i = sg.length := by omega
    have e1 : sgi sg.length = sg.map Sg.clean := by rw [hsgi]; dsimp only; rw [List.take_length, List.drop_length, List.append_nil]
    have e2 : Si sg.length = syncG pre S (sg.map Sg.wg) := by rw [hSi]; dsimp only; rw [List.take_length]; rfl
    have e3 := hpi sg.length
    rw [e1, e2] at hD
    rw [e1] at e3
    obtain ⟨dL, hL, hB, close⟩ := hD.open
    repeat (first | (refine RunH ?_; intro w hL hB; try clear w) | (refine Both.mk ?_ ?_ <;> conv => whnf) | fail)
    exact ⟨rfl, ⟨n, sg.map Sg.clean, by simp [Sg.wg, Sg.clean, Wg.clean, Function.comp_def], by rw [e3]; exact hok, close hL hB⟩⟩
end Go.Proofs.YtjafamiaahabgaaDoor
