/- wal: Drop. Nothing is claimed here. -/
import Derived.Test.YtjafamiaahabgaaGreatDoorAl
namespace Go.Proofs.YtjafamiaahabgaaGreatDoor
open Go.RowKit Go.Lib
set_option linter.unusedVariables false
set_option linter.unusedSimpArgs false
set_option maxRecDepth 100000

theorem Wn.tail {g c : Nat} {pr post ps : List Value} {p : Value} (hok : (Wn.at g pr post c).ok (p :: ps)) {o1 n1 c1 : Nat} (h1 : 1 < c → o1 = pr.length + 1) (h2 : 1 = c → o1 = pr.length) (h3 : n1 = ps.length) (h4 : c1 = c - 1) :
    ∃ n2 : Wn, n2.val ps = .slice (some ⟨g, o1, none⟩) n1 c1 ∧ n2.ok ps ∧ n2.res ps = (Wn.at g pr post c).res (p :: ps) := by
  obtain ⟨k1, k2, k3⟩ := hok
  rw [List.length_cons] at k1 k3
  subst h3; subst h4
  by_cases hc : c = 1
  · subst hc
    obtain rfl := h2 rfl
    obtain rfl := List.eq_nil_of_length_eq_zero (show ps.length = 0 by omega)
    exact ⟨.at g pr (p :: post) 0, rfl, ⟨by simp, by simp, by simp⟩, by simp [Wn.res]⟩
  · obtain rfl := h1 (by omega)
    exact ⟨.at g (pr ++ [p]) post (c - 1), by simp [Wn.val], ⟨by omega, by omega, by omega⟩, by simp [Wn.res]⟩
def dropR (pre : ByteArray) (i : Int) (af : Nat) : List Wg → List Fl → List Wg × List Fl
  | [], S => ([], S)
  | g :: gs, S => if i < (g.next : Nat) ∨ (gs = [] ∧ i ≠ (af : Int)) then (g :: gs, S) else dropR pre i af gs (delS S (wnm pre g.first))
def lowW (G : List Wg) (af : Nat) : Nat := match G with
  | [] => af
  | g :: _ => g.first
def mayW (G : List Wg) (af : Nat) (i : Int) : Bool := decide ((lowW G af : Int) ≤ i ∧ i ≤ (af : Int))
set_option maxHeartbeats 8000000 in
theorem logDrop_fn {B d l room : Nat} {pre : ByteArray} {S : List Fl} {G : List Wg} {af : Nat} {F : List Res} (i : Int) (hp : 1 ≤ pre.size ∧ pre.size ≤ 55) {w0 w : World} (ht : TabW B w0) (hlen : G.length ≤ 1000000000) (hfs : ∀ g ∈ G, g.first ≤ 99999999 ∧ g.size ≤ 1073741824) (hG : LgS B w0 w d l pre room S G af F) :
    Fn Tryz.prog 10 #[.pointer (some ⟨l, 0, none⟩), .int .i64 i] w fun r w' => r = .int .i64 (if mayW G af i = true then 0 else 1) ∧ LgS B w0 w' d l pre room (if mayW G af i = true then (dropR pre i af G S).2 else S) (if mayW G af i = true then (dropR pre i af G S).1 else G) af F := by
  obtain ⟨n, sg, rfl, hok, hD⟩ := hG.of
  clear hG
  rw [List.length_map] at hlen
  have hbs : ∀ s ∈ sg, s.first ≤ 99999999 ∧ s.es.length ≤ 4000000000 := fun s hs => by
    have h1 := hfs s.wg (List.mem_map.2 ⟨s, hs, rfl⟩)
    have h2 := lenW_ge s.first (s.es.map En.d)
    rw [List.length_map] at h2
    have h3 : s.wg.size = lenW s.first (s.es.map En.d) := rfl
    have h4 : s.wg.first = s.first := rfl
    omega
  clear hfs
  obtain ⟨dL, hL, hB, close⟩ := hD.open
  clear hD
  have hsl : Sl w (n.val (ptrs sg)) (ptrs sg) := Wn.sl hok hL (fun R hR => by simp [logR]; exact .inr (.inl hR))
  refine Fn.mk Tryz.func10 rfl (by kernel_rfl) Tryz.ntmps10 rfl (by rw [Tryz.results10]) ?_
  repeat (first | (refine RunH ?_; intro w hL hB; try clear w) | (refine Both.mk ?_ ?_ <;> conv => whnf) | fail)
  refine (may_fn (fi := lowW (sg.map Sg.wg) af) i w (hL.hold (.blk l (logC d pre n sg af) 65) (.head _)) hsl (fun h => by
    cases sg with
    | nil => rfl
    | cons s r => cases h) (fun p ps' h => by
    cases sg with
    | nil => cases h
    | cons s r =>
      injection h with h1 h2
      exact ⟨s.b, _, _, _, h1.symm, hL.hold s.hd (by simp [logR, Sg.res])⟩)).mono fun r w ⟨hr, hw⟩ => ?_
  rw [show (decide ((lowW (sg.map Sg.wg) af : Int) ≤ i ∧ i ≤ (af : Int))) = mayW (sg.map Sg.wg) af i from rfl] at hr
  subst hr
  replace hL := hL.call hB (Turns.of_below hw)
  replace hB := Nat.le_trans hB hw.size
  cases hmay : mayW (sg.map Sg.wg) af i with
  | false =>
    rw [if_neg (by simp), if_neg (by simp), if_neg (by simp)]
    conv => whnf
    repeat (first | (refine RunH ?_; intro w hL hB; try clear w) | (refine Both.mk ?_ ?_ <;> conv => whnf) | fail)
    exact ⟨rfl, ⟨n, sg, rfl, hok, close (F' := logR l d pre n sg af ++ F) hL hB⟩⟩
  | true =>
  rw [if_pos rfl, if_pos rfl, if_pos rfl]
  have hD := close (F' := logR l d pre n sg af ++ F) hL hB
  clear hL hB close
  conv => whnf
  repeat (first | (refine RunH ?_; intro w hL hB; try clear w) | (refine Both.mk ?_ ?_ <;> conv => whnf) | fail)
  refine V.loop (α := List Sg × Wn × List Fl) (fun z => [(0, .pointer (some ⟨l, 0, none⟩)), (1, .int .i64 i)])
    (fun z w' => dropR pre i af (sg.map Sg.wg) S = dropR pre i af (z.1.map Sg.wg) z.2.2 ∧ z.2.1.ok (ptrs z.1) ∧ (∀ s ∈ z.1, s.first ≤ 99999999 ∧ s.es.length ≤ 4000000000) ∧ z.1.length ≤ 1000000000 ∧ DkS B w0 w' d room z.2.2 (logR l d pre z.2.1 z.1 af ++ F))
    (fun z => z.1.length) (sg, n, S) ⟨rfl, rfl, trivial⟩ ⟨rfl, hok, hbs, hlen, hD⟩ ?_
  clear hD hbs hlen hsl hok hmay hw
  rintro ⟨sg1, n1, S1⟩ w ⟨hdr, hok, hbs, hlen, hD⟩
  dsimp only at hdr hok hbs hlen hD ⊢
  rw [hdr]
  obtain ⟨dL, hL, hB, close⟩ := hD.open
  clear hD
  have hps : (ptrs sg1).length = sg1.length := by simp [ptrs]
  have hsl : Sl w (n1.val (ptrs sg1)) (ptrs sg1) := Wn.sl hok hL (fun R hR => by simp [logR]; exact .inr (.inl hR))
  obtain ⟨va, vc, hv⟩ := hsl.shape
  rw [hps] at hv
  have hlC : logC d pre n1 sg1 af = [.pointer (some ⟨d, 0, none⟩), .string pre, .slice va sg1.length vc, .int .i64 (af : Int)] := by rw [logC, hv]
  cases sg1 with
  | nil =>
    replace hL : Sep Tryz.prog B w0 w (.blk l [.pointer (some ⟨d, 0, none⟩), .string pre, .slice va 0 vc, .int .i64 (af : Int)] 65 :: ((n1.res (ptrs []) ++ [] ++ F) ++ dL)) := by
      have h : Sep Tryz.prog B w0 w (.blk l (logC d pre n1 [] af) 65 :: ((n1.res (ptrs []) ++ [] ++ F) ++ dL)) := hL
      rw [hlC] at h; exact h
    have back : ∀ {w' : World}, Sep Tryz.prog B w0 w' (.blk l [.pointer (some ⟨d, 0, none⟩), .string pre, .slice va 0 vc, .int .i64 (af : Int)] 65 :: ((n1.res (ptrs []) ++ [] ++ F) ++ dL)) → Sep Tryz.prog B w0 w' (logR l d pre n1 [] af ++ F ++ dL) := by
      intro w' h
      have h2 : Sep Tryz.prog B w0 w' (.blk l (logC d pre n1 [] af) 65 :: ((n1.res (ptrs []) ++ [] ++ F) ++ dL)) := by rw [hlC]; exact h
      exact h2
    repeat (first | (refine RunH ?_; intro w hL hB; try clear w) | (refine Both.mk ?_ ?_ <;> conv => whnf) | fail)
    exact ⟨rfl, ⟨n1, [], rfl, hok, close (F' := logR l d pre n1 [] af ++ F) (back hL) hB⟩⟩
  | cons s rest =>
    cases n1 with
    | no => cases hok
    | «at» g pr post c =>
    obtain ⟨k1, k2, k3⟩ := hok
    rw [hps, List.length_cons] at k1 k3
    obtain ⟨hsf, hse⟩ := hbs s (.head _)
    rw [List.length_cons] at hlen
    have hnm : (wnm pre s.first).size ≤ 1000000 := by rw [wnm_size hsf]; omega
    obtain ⟨W, hW⟩ : ∃ W, W = ((Wn.at g pr post c).res (ptrs (s :: rest)) ++ ((s.eR :: s.xR :: s.es.map En.res) ++ rest.flatMap Sg.res)) ++ F := ⟨_, rfl⟩
    have hvv : (Wn.at g pr post c).val (ptrs (s :: rest)) = .slice (some ⟨g, pr.length, none⟩) (rest.length + 1) c := by simp [Wn.val, ptrs]
    have h2 : logR l d pre (Wn.at g pr post c) (s :: rest) af ++ F ++ dL = ((.blk l (logC d pre (Wn.at g pr post c) (s :: rest) af) 65) :: ((Wn.at g pr post c).res (ptrs (s :: rest)) ++ ([] ++ (s.hd :: (s.eR :: s.xR :: s.es.map En.res) ++ rest.flatMap Sg.res)))) ++ F ++ dL := by
      rw [logR]; simp [Sg.res]
    have h1 := perm_pick (.blk l (logC d pre (Wn.at g pr post c) (s :: rest) af) 65) s.hd ((Wn.at g pr post c).res (ptrs (s :: rest))) [] (s.eR :: s.xR :: s.es.map En.res) (rest.flatMap Sg.res) F dL
    rw [← h2] at h1
    have hsl2 : ∀ {w' : World} {R1 : List Res}, Sep Tryz.prog B w0 w' (R1 ++ (W ++ dL)) → Row w' g pr.length (ptrs (s :: rest)) ∧ Sl w' s.ev (s.es.map En.v) := fun h => by
      have hok : (Wn.at g pr post c).ok (ptrs (s :: rest)) := ⟨by rw [hps, List.length_cons]; exact k1, k2, by rw [hps, List.length_cons]; exact k3⟩
      refine ⟨?_, ?_⟩
      · have := Wn.sl hok h (fun R hR => by rw [hW]; exact List.mem_append_right _ (List.mem_append_left _ (List.mem_append_left _ (List.mem_append_left _ hR))))
        exact this.rowOf'
      · exact RowC.sl (show RowC _ _ s.ev s.es.length _ from h.hold s.eR (by rw [hW]; simp))
    replace hL : Sep Tryz.prog B w0 w (.blk l [.pointer (some ⟨d, 0, none⟩), .string pre, .slice (some ⟨g, pr.length, none⟩) (rest.length + 1) c, .int .i64 (af : Int)] 65 :: .blk s.b [.int .i64 (s.first : Int), s.ev, s.xv, .bool s.dirty] 80 :: (W ++ dL)) := by
      have := hL.perm h1
      rw [logC, hvv] at this
      rw [hW]; exact this
    have back : ∀ {w' : World}, Sep Tryz.prog B w0 w' (.blk l [.pointer (some ⟨d, 0, none⟩), .string pre, .slice (some ⟨g, pr.length, none⟩) (rest.length + 1) c, .int .i64 (af : Int)] 65 :: .blk s.b [.int .i64 (s.first : Int), s.ev, s.xv, .bool s.dirty] 80 :: (W ++ dL)) → Sep Tryz.prog B w0 w' (logR l d pre (Wn.at g pr post c) (s :: rest) af ++ F ++ dL) := fun h => by
      rw [hW] at h
      refine Sep.perm ?_ h1.symm
      rw [logC, hvv]; exact h
    clear h1 h2 hlC hv
    repeat (first | (refine RunH ?_; intro w hL hB; try clear w) | (refine Both.mk ?_ ?_ <;> conv => whnf) | fail)
    intro o1 ho1
    conv => whnf
    repeat (first | (refine RunH ?_; intro w hL hB; try clear w) | (refine Both.mk ?_ ?_ <;> conv => whnf) | fail)
    refine Ld.row1 ttOk (hsl2 (R1 := [_, _]) hL).1 rfl rfl (k := 0) (v := .pointer (some ⟨s.b, 0, none⟩)) rfl (by omega) ?_
    conv => whnf
    refine V.seq ?_
    refine V.join (α := Unit) (fun _ => [(0, .pointer (some ⟨l, 0, none⟩)), (1, .int .i64 i), (5, .pointer (some ⟨s.b, 0, none⟩))])
      (fun _ w' => (¬ i < ((s.first + s.es.length : Nat) : Int)) ∧ (¬ (rest = [] ∧ i ≠ (af : Int))) ∧ B ≤ w'.heap.size ∧ Sep Tryz.prog B w0 w' (.blk l [.pointer (some ⟨d, 0, none⟩), .string pre, .slice (some ⟨g, pr.length, none⟩) (rest.length + 1) c, .int .i64 (af : Int)] 65 :: .blk s.b [.int .i64 (s.first : Int), s.ev, s.xv, .bool s.dirty] 80 :: (W ++ dL))) ?_ ?_
    · repeat (first | (refine RunH ?_; intro w hL hB; try clear w) | (refine Both.mk ?_ ?_ <;> conv => whnf) | fail)
      refine (segNext_fn w (hL.hold _ (.tail _ (.head _))) (hsl2 (R1 := [_, _]) hL).2 (by omega) (by rw [List.length_map]; omega)).mono fun r w ⟨hr, hw⟩ => ?_
      subst hr
      replace hL := hL.call hB (Turns.of_below hw)
      replace hB := Nat.le_trans hB hw.size
      rw [List.length_map]
      by_cases hn : i < ((s.first + s.es.length : Nat) : Int)
      · have he : dropR pre i af ((s :: rest).map Sg.wg) S1 = ((s :: rest).map Sg.wg, S1) := by
          rw [List.map_cons, dropR, if_pos (.inl (by simpa [Wg.next, Sg.wg] using hn))]
        rw [he]
        conv => whnf
        repeat (first | (refine RunH ?_; intro w hL hB; try clear w) | (refine Both.mk ?_ ?_ <;> conv => whnf) | fail)
        exact ⟨rfl, ⟨Wn.at g pr post c, s :: rest, rfl, ⟨by rw [hps, List.length_cons]; exact k1, k2, by rw [hps, List.length_cons]; exact k3⟩, close (F' := logR l d pre (Wn.at g pr post c) (s :: rest) af ++ F) (back hL) hB⟩⟩
      by_cases hlast : rest = [] ∧ i ≠ (af : Int)
      · have he : dropR pre i af ((s :: rest).map Sg.wg) S1 = ((s :: rest).map Sg.wg, S1) := by
          rw [List.map_cons, dropR, if_pos (.inr ⟨by rw [hlast.1]; rfl, hlast.2⟩)]
        rw [he]
        have hl1 : ((rest.length + 1 : Nat) : Int) = 1 := by rw [hlast.1]; rfl
        have hl2 := hlast.2
        conv => whnf
        repeat (first | (refine RunH ?_; intro w hL hB; try clear w) | (refine Both.mk ?_ ?_ <;> conv => whnf) | fail)
        exact ⟨rfl, ⟨Wn.at g pr post c, s :: rest, rfl, ⟨by rw [hps, List.length_cons]; exact k1, k2, by rw [hps, List.length_cons]; exact k3⟩, close (F' := logR l d pre (Wn.at g pr post c) (s :: rest) af ++ F) (back hL) hB⟩⟩
      have hn2 : ¬ ((s.first + s.es.length : Nat) : Int) > i := by omega
      by_cases hr0 : rest.length = 0
      · have hia : i = (af : Int) := by
          rcases Decidable.em (i = (af : Int)) with h | h
          · exact h
          · exact absurd ⟨List.eq_nil_of_length_eq_zero hr0, h⟩ hlast
        have hl1 : ((rest.length + 1 : Nat) : Int) = 1 := by omega
        conv => whnf
        repeat (first | (refine RunH ?_; intro w hL hB; try clear w) | (refine Both.mk ?_ ?_ <;> conv => whnf) | fail)
        exact ⟨(), ⟨rfl, rfl, rfl, trivial⟩, hn, hlast, hB, hL⟩
      · have hl1 : ¬ ((rest.length + 1 : Nat) : Int) = 1 := by omega
        conv => whnf
        repeat (first | (refine RunH ?_; intro w hL hB; try clear w) | (refine Both.mk ?_ ?_ <;> conv => whnf) | fail)
        exact ⟨(), ⟨rfl, rfl, rfl, trivial⟩, hn, hlast, hB, hL⟩
    clear hL hB
    rintro _ w ⟨hn, hlast, hB, hL⟩
    have he : dropR pre i af ((s :: rest).map Sg.wg) S1 = dropR pre i af (rest.map Sg.wg) (delS S1 (wnm pre s.first)) := by
      rw [List.map_cons, dropR, if_neg]
      · rfl
      · rintro (h | ⟨h, h'⟩)
        · exact hn (by simpa [Wg.next, Sg.wg] using h)
        · exact hlast ⟨List.map_eq_nil_iff.1 h, h'⟩
    rw [he]
    refine V.seq ?_
    refine V.tree ttOk (fun x => Blk x l [.pointer (some ⟨d, 0, none⟩), .string pre, .slice (some ⟨g, pr.length, none⟩) (rest.length + 1) c, .int .i64 (af : Int)] 65 ∧ Blk x s.b [.int .i64 (s.first : Int), s.ev, s.xv, .bool s.dirty] 80) (.q 0 (.q 1 (.q 2 (.q 3 (.q 4 (.q 5 (.q 6 (.q 7 (.q 8 (.alt 9 (.alt 10 .nil .stop) .stop)))))))))) mixed (by decide +kernel) ⟨hL.drew.hold _ (.head _), hL.drew.hold _ (.tail _ (.head _))⟩ ?_
    replace hL := hL.drew
    conv => whnf
    repeat' (first | (refine RunH ?_; intro w hL hB; try clear w) | (refine Br.dec (fun hbr => ?_) (fun hbr => ?_) <;> conv => whnf) | (refine Br.mk (fun hbr => ?_) (fun hbr => ?_) <;> conv => whnf) | (refine Both.mk ?_ ?_ <;> conv => whnf) | (refine Lq.of_class (fun x hx => Ld.blk ttOk rfl rfl hx.1 rfl rfl) ?_; conv => whnf) | (refine Lq.of_class (fun x hx => Ld.blk ttOk rfl rfl hx.2 rfl rfl) ?_; conv => whnf) | fail)
    refine (name_fn s.first hsf (by omega) _ (hL.hold _ (.head _)) (ht _ hL.below)).mono fun r w ⟨hr, hw⟩ => ?_
    subst hr
    replace hL := hL.call hB (Turns.of_below hw)
    replace hB := Nat.le_trans hB hw.size
    conv => whnf
    refine And.intro ⟨hL.hold _ (.head _), hL.hold _ (.tail _ (.head _))⟩ ?_
    conv => whnf
    refine (remove_fn (wnm pre s.first) hnm (close (F' := .blk l _ _ :: .blk s.b _ _ :: W) hL hB)).mono fun r w ⟨hr, hD⟩ => ?_
    subst hr
    clear hL hB close
    obtain ⟨dL, hL, hB, close⟩ := hD.open
    clear hD
    conv => whnf
    refine And.intro ⟨hL.hold _ (.head _), hL.hold _ (.tail _ (.head _))⟩ ?_
    conv => whnf
    repeat (first | (refine RunH ?_; intro w hL hB; try clear w) | (refine Both.mk ?_ ?_ <;> conv => whnf) | fail)
    intro o2 n2 c2 r1 r2 r3 r4
    conv => whnf
    repeat (first | (refine RunH ?_; intro w hL hB; try clear w) | (refine Both.mk ?_ ?_ <;> conv => whnf) | fail)
    have hpr : (ptrs rest).length = rest.length := by simp [ptrs]
    obtain ⟨m, hm1, hm2, hm3⟩ := Wn.tail (g := g) (pr := pr) (post := post) (c := c) (p := .pointer (some ⟨s.b, 0, none⟩)) (ps := ptrs rest) ⟨by rw [List.length_cons, hpr]; exact k1, k2, by rw [List.length_cons, hpr]; exact k3⟩ (o1 := o2) (n1 := n2) (c1 := c2) (fun h => by have := r1 (by omega); omega) (fun h => by have := r2 (by omega); omega) (by omega) (by omega)
    refine ⟨(rest, m, delS S1 (wnm pre s.first)), ⟨rfl, rfl, trivial⟩, ⟨rfl, hm2, fun q hq => hbs q (List.mem_cons_of_mem _ hq), by dsimp only; omega, ?_⟩, by simp⟩
    refine close (F' := logR l d pre m rest af ++ F) ?_ hB
    have hps2 : ptrs (s :: rest) = .pointer (some ⟨s.b, 0, none⟩) :: ptrs rest := rfl
    rw [hW, hps2, ← hm3] at hL
    rw [logR, logC, hm1]
    refine hL.sub ?_
    refine (List.Sublist.cons _ ?_).cons_cons _
    refine List.Sublist.append ?_ (List.Sublist.refl _)
    refine List.Sublist.append ?_ (List.Sublist.refl _)
    refine List.Sublist.append (List.Sublist.refl _) ?_
    exact List.sublist_append_right _ _
end Go.Proofs.YtjafamiaahabgaaGreatDoor
