/- wal: Cut. Nothing is claimed here. -/
import Derived.Test.YtjafamiaahabgaaGreatDoorAm
namespace Go.Proofs.YtjafamiaahabgaaGreatDoor
open Go.RowKit Go.Lib
set_option linter.unusedVariables false
set_option linter.unusedSimpArgs false
set_option maxRecDepth 100000

theorem Wn.init {g c : Nat} {pr post ps : List Value} {p : Value} (hok : (Wn.at g pr post c).ok (ps ++ [p])) :
    (Wn.at g pr (p :: post) c).val ps = .slice (some ⟨g, pr.length, none⟩) ps.length c ∧ (Wn.at g pr (p :: post) c).ok ps ∧ (Wn.at g pr (p :: post) c).res ps = (Wn.at g pr post c).res (ps ++ [p]) := by
  obtain ⟨k1, k2, k3⟩ := hok
  rw [List.length_append, List.length_singleton] at k1 k3
  exact ⟨rfl, ⟨by omega, k2, by rw [List.length_cons]; omega⟩, by simp [Wn.res]⟩
/-- from the last segment on: those that begin at i or behind it go -/
def cutRev (pre : ByteArray) (i : Int) : List Wg → List Fl → List Wg × List Fl
  | [], S => ([], S)
  | g :: gs, S => if i ≤ (g.first : Int) then cutRev pre i gs (delS S (wnm pre g.first)) else (g :: gs, S)
def Wg.cut (g : Wg) (i : Int) : Wg := ⟨g.first, g.es.take (i - g.first).toNat, g.dirty⟩
def cutFin (pre : ByteArray) (i : Int) : List Wg × List Fl → List Wg × List Fl
  | ([], S) => ([], S)
  | (g :: gs, S) => if i < (g.next : Nat) then ((g.cut i :: gs).reverse, cutS S (wnm pre g.first) ((g.cut i).size : Int)) else ((g :: gs).reverse, S)
def cutG (pre : ByteArray) (i : Int) (G : List Wg) (S : List Fl) : List Wg × List Fl := cutFin pre i (cutRev pre i G.reverse S)
def headP (rs : List Sg) : Value := match rs with
  | [] => .pointer none
  | s :: _ => .pointer (some ⟨s.b, 0, none⟩)
theorem headP_last (rs : List Sg) : (ptrs rs.reverse).getLast?.getD (.pointer none) = headP rs := by
  cases rs with
  | nil => rfl
  | cons s r => simp [ptrs, headP]
theorem perm_ex {α : Type} (l h e x : α) (A Y M Fr D : List α) : (l :: h :: (((A ++ (Y ++ ((e :: x :: M) ++ []))) ++ Fr) ++ D)).Perm (l :: h :: e :: x :: ((A ++ (Y ++ M) ++ Fr) ++ D)) := by
  refine (List.Perm.cons _ ?_).cons _
  have h1 := List.perm_append_comm_assoc (A ++ Y) [e, x] (M ++ Fr ++ D)
  simpa using h1
theorem perm_cutfin {α : Type} (l h e x : α) (A Y M Fr D : List α) : (l :: h :: e :: x :: ((A ++ (Y ++ M) ++ Fr) ++ D)).Perm (l :: ((A ++ (Y ++ (h :: e :: x :: M)) ++ Fr) ++ D)) := by
  refine List.Perm.cons _ ?_
  have h1 := List.perm_append_comm_assoc [h, e, x] (A ++ Y) (M ++ Fr ++ D)
  simpa using h1
set_option maxHeartbeats 8000000 in
theorem logCut_fn {B d l room : Nat} {pre : ByteArray} {S : List Fl} {G : List Wg} {af : Nat} {F : List Res} (i : Int) (hp : 1 ≤ pre.size ∧ pre.size ≤ 55) {w0 w : World} (ht : TabW B w0) (hlen : G.length ≤ 1000000000) (haf : af ≤ 4000000000) (hfs : ∀ g ∈ G, g.first ≤ 99999999 ∧ g.size ≤ 1073741824) (hG : LgS B w0 w d l pre room S G af F) :
    Fn Tryz.prog 16 #[.pointer (some ⟨l, 0, none⟩), .int .i64 i] w fun r w' => r = .int .i64 (if mayW G af i = true then 0 else 1) ∧ LgS B w0 w' d l pre room (if mayW G af i = true then (cutG pre i G S).2 else S) (if mayW G af i = true then (cutG pre i G S).1 else G) (if mayW G af i = true then i.toNat else af) F := by
  obtain ⟨n, sg, rfl, hok, hD⟩ := hG.of
  clear hG
  rw [List.length_map] at hlen
  have hbs : ∀ s ∈ sg, s.first ≤ 99999999 ∧ s.es.length ≤ 4000000000 := fun s hs => by
    have h1 := hfs s.wg (List.mem_map.2 ⟨s, hs, rfl⟩)
    have h2 := lenW_ge s.first (s.es.map En.d)
    rw [List.length_map] at h2
    have h3 : s.wg.size = lenW s.first (s.es.map En.d) := rfl
    have h4 : s.wg.first = s.first := rfl
    omega
  clear hfs
  obtain ⟨dL, hL, hB, close⟩ := hD.open
  clear hD
  have hsl : Sl w (n.val (ptrs sg)) (ptrs sg) := Wn.sl hok hL (fun R hR => by simp [logR]; exact .inr (.inl hR))
  refine Fn.mk Tryz.func16 rfl (by kernel_rfl) Tryz.ntmps16 rfl (by rw [Tryz.results16]) ?_
  repeat (first | (refine RunH ?_; intro w hL hB; try clear w) | (refine Both.mk ?_ ?_ <;> conv => whnf) | fail)
  refine (may_fn (fi := lowW (sg.map Sg.wg) af) i w (hL.hold (.blk l (logC d pre n sg af) 65) (.head _)) hsl (fun h => by
    cases sg with
    | nil => rfl
    | cons s r => cases h) (fun p ps' h => by
    cases sg with
    | nil => cases h
    | cons s r =>
      injection h with h1 h2
      exact ⟨s.b, _, _, _, h1.symm, hL.hold s.hd (by simp [logR, Sg.res])⟩)).mono fun r w ⟨hr, hw⟩ => ?_
  rw [show (decide ((lowW (sg.map Sg.wg) af : Int) ≤ i ∧ i ≤ (af : Int))) = mayW (sg.map Sg.wg) af i from rfl] at hr
  subst hr
  replace hL := hL.call hB (Turns.of_below hw)
  replace hB := Nat.le_trans hB hw.size
  cases hmay : mayW (sg.map Sg.wg) af i with
  | false =>
    rw [if_neg (by simp), if_neg (by simp), if_neg (by simp), if_neg (by simp)]
    conv => whnf
    repeat (first | (refine RunH ?_; intro w hL hB; try clear w) | (refine Both.mk ?_ ?_ <;> conv => whnf) | fail)
    exact ⟨rfl, ⟨n, sg, rfl, hok, close (F' := logR l d pre n sg af ++ F) hL hB⟩⟩
  | true =>
  rw [if_pos rfl, if_pos rfl, if_pos rfl, if_pos rfl]
  have hi0 : 0 ≤ i ∧ i ≤ 4000000000 := by
    simp only [mayW, decide_eq_true_eq] at hmay
    omega
  conv => whnf
  repeat (first | (refine RunH ?_; intro w hL hB; try clear w) | (refine Both.mk ?_ ?_ <;> conv => whnf) | fail)
  refine (logLast_fn w (hL.hold (.blk l (logC d pre n sg af) 65) (.head _)) (hsl.below hw)).mono fun r w ⟨hr, hw⟩ => ?_
  subst hr
  replace hL := hL.call hB (Turns.of_below hw)
  replace hB := Nat.le_trans hB hw.size
  have hD := close (F' := logR l d pre n sg af ++ F) hL hB
  clear hL hB close
  have hh := headP_last sg.reverse
  rw [List.reverse_reverse] at hh
  rw [hh]
  conv => whnf
  repeat (first | (refine RunH ?_; intro w hL hB; try clear w) | (refine Both.mk ?_ ?_ <;> conv => whnf) | fail)
  refine V.loop (α := List Sg × Wn × List Fl) (fun z => [(0, .pointer (some ⟨l, 0, none⟩)), (1, .int .i64 i), (5, headP z.1)])
    (fun z w' => cutRev pre i (sg.reverse.map Sg.wg) S = cutRev pre i (z.1.map Sg.wg) z.2.2 ∧ z.2.1.ok (ptrs z.1.reverse) ∧ (∀ s ∈ z.1, s.first ≤ 99999999 ∧ s.es.length ≤ 4000000000) ∧ z.1.length ≤ 1000000000 ∧ DkS B w0 w' d room z.2.2 (logR l d pre z.2.1 z.1.reverse af ++ F))
    (fun z => z.1.length) (sg.reverse, n, S) ⟨rfl, rfl, rfl, trivial⟩ ⟨rfl, by dsimp only; rw [List.reverse_reverse]; exact hok, fun s hs => hbs s (List.mem_reverse.1 hs), by simpa using hlen, by dsimp only; rw [List.reverse_reverse]; exact hD⟩ ?_
  have hcg : cutG pre i (sg.map Sg.wg) S = cutFin pre i (cutRev pre i (sg.reverse.map Sg.wg) S) := by rw [cutG, List.map_reverse]
  rw [hcg]
  clear hD hbs hlen hsl hok hmay hw hh hcg
  rintro ⟨rs, n1, S1⟩ w ⟨hdr, hok, hbs, hlen, hD⟩
  dsimp only at hdr hok hbs hlen hD ⊢
  rw [hdr]
  obtain ⟨dL, hL, hB, close⟩ := hD.open
  clear hD
  have hps : (ptrs rs.reverse).length = rs.length := by simp [ptrs]
  have hsl : Sl w (n1.val (ptrs rs.reverse)) (ptrs rs.reverse) := Wn.sl hok hL (fun R hR => by simp [logR]; exact .inr (.inl hR))
  have hhp := headP_last rs
  have eai : ((i.toNat : Nat) : Int) = i := by omega
  cases rs with
  | nil =>
    obtain ⟨va, vc, hv⟩ := hsl.shape
    rw [hps] at hv
    have hlC : ∀ a, logC d pre n1 ([] : List Sg).reverse a = [.pointer (some ⟨d, 0, none⟩), .string pre, .slice va 0 vc, .int .i64 (a : Int)] := fun a => by rw [logC, hv]; rfl
    replace hL : Sep Tryz.prog B w0 w (.blk l [.pointer (some ⟨d, 0, none⟩), .string pre, .slice va 0 vc, .int .i64 (af : Int)] 65 :: ((n1.res (ptrs []) ++ [] ++ F) ++ dL)) := by
      have h : Sep Tryz.prog B w0 w (.blk l (logC d pre n1 ([] : List Sg).reverse af) 65 :: ((n1.res (ptrs []) ++ [] ++ F) ++ dL)) := hL
      rw [hlC] at h; exact h
    have hsl2 : Sl w (.slice va 0 vc) (ptrs ([] : List Sg).reverse) := by
      have := hsl
      rw [hv] at this; exact this
    repeat (first | (refine RunH ?_; intro w hL hB; try clear w) | (refine Both.mk ?_ ?_ <;> conv => whnf) | fail)
    refine (logLast_fn w (hL.hold _ (.head _)) hsl2).mono fun r w ⟨hr, hw⟩ => ?_
    subst hr
    replace hL := hL.call hB (Turns.of_below hw)
    replace hB := Nat.le_trans hB hw.size
    rw [hhp]
    conv => whnf
    repeat (first | (refine RunH ?_; intro w hL hB; try clear w) | (refine Both.mk ?_ ?_ <;> conv => whnf) | fail)
    refine ⟨rfl, ⟨n1, [], rfl, hok, close (F' := logR l d pre n1 [] i.toNat ++ F) ?_ hB⟩⟩
    show Sep Tryz.prog B w0 _ (.blk l (logC d pre n1 ([] : List Sg).reverse i.toNat) 65 :: ((n1.res (ptrs []) ++ [] ++ F) ++ dL))
    rw [hlC, eai]
    exact hL
  | cons s rest =>
    rw [List.reverse_cons] at hok hL hps hsl
    cases n1 with
    | no =>
      exfalso
      have : ptrs (rest.reverse ++ [s]) = [] := hok
      simp [ptrs] at this
    | «at» g pr post c =>
    have hpr : ptrs (rest.reverse ++ [s]) = ptrs rest.reverse ++ [.pointer (some ⟨s.b, 0, none⟩)] := by simp [ptrs]
    have hprl : (ptrs rest.reverse).length = rest.length := by simp [ptrs]
    obtain ⟨k1, k2, k3⟩ := id hok
    rw [hps, List.length_cons] at k1 k3
    obtain ⟨hsf, hse⟩ := hbs s (.head _)
    rw [List.length_cons] at hlen
    have hnm : (wnm pre s.first).size ≤ 1000000 := by rw [wnm_size hsf]; omega
    obtain ⟨W, hW⟩ : ∃ W, W = ((Wn.at g pr post c).res (ptrs (rest.reverse ++ [s])) ++ (rest.reverse.flatMap Sg.res ++ ((s.eR :: s.xR :: s.es.map En.res) ++ []))) ++ F := ⟨_, rfl⟩
    have hvv : (Wn.at g pr post c).val (ptrs (rest.reverse ++ [s])) = .slice (some ⟨g, pr.length, none⟩) (rest.length + 1) c := by simp [Wn.val, ptrs]
    have h2 : logR l d pre (Wn.at g pr post c) (rest.reverse ++ [s]) af ++ F ++ dL = ((.blk l (logC d pre (Wn.at g pr post c) (rest.reverse ++ [s]) af) 65) :: ((Wn.at g pr post c).res (ptrs (rest.reverse ++ [s])) ++ (rest.reverse.flatMap Sg.res ++ (s.hd :: (s.eR :: s.xR :: s.es.map En.res) ++ [])))) ++ F ++ dL := by
      rw [logR]; simp [Sg.res]
    have h1 := perm_pick (.blk l (logC d pre (Wn.at g pr post c) (rest.reverse ++ [s]) af) 65) s.hd ((Wn.at g pr post c).res (ptrs (rest.reverse ++ [s]))) (rest.reverse.flatMap Sg.res) (s.eR :: s.xR :: s.es.map En.res) [] F dL
    rw [← h2] at h1
    replace hL : Sep Tryz.prog B w0 w (.blk l [.pointer (some ⟨d, 0, none⟩), .string pre, .slice (some ⟨g, pr.length, none⟩) (rest.length + 1) c, .int .i64 (af : Int)] 65 :: .blk s.b [.int .i64 (s.first : Int), s.ev, s.xv, .bool s.dirty] 80 :: (W ++ dL)) := by
      have := hL.perm h1
      rw [logC, hvv] at this
      rw [hW]; exact this
    clear h1 h2 hsl
    have hhd : headP (s :: rest) = .pointer (some ⟨s.b, 0, none⟩) := rfl
    rw [hhd]
    by_cases hge : i ≤ (s.first : Int)
    · have he : cutRev pre i ((s :: rest).map Sg.wg) S1 = cutRev pre i (rest.map Sg.wg) (delS S1 (wnm pre s.first)) := by
        rw [List.map_cons, cutRev, if_pos (show i ≤ (s.wg.first : Int) from hge)]; rfl
      rw [he]
      have hge2 : (s.first : Int) ≥ i := hge
      repeat (first | (refine RunH ?_; intro w hL hB; try clear w) | (refine Both.mk ?_ ?_ <;> conv => whnf) | fail)
      refine V.tree ttOk (fun x => Blk x l [.pointer (some ⟨d, 0, none⟩), .string pre, .slice (some ⟨g, pr.length, none⟩) (rest.length + 1) c, .int .i64 (af : Int)] 65 ∧ Blk x s.b [.int .i64 (s.first : Int), s.ev, s.xv, .bool s.dirty] 80) (.q 0 (.q 1 (.q 2 (.q 3 (.q 4 (.q 5 (.q 6 (.q 7 (.q 8 (.alt 9 (.alt 10 .nil .stop) .stop)))))))))) mixed (by decide +kernel) ⟨hL.drew.hold _ (.head _), hL.drew.hold _ (.tail _ (.head _))⟩ ?_
      replace hL := hL.drew
      conv => whnf
      repeat' (first | (refine RunH ?_; intro w hL hB; try clear w) | (refine Br.dec (fun hbr => ?_) (fun hbr => ?_) <;> conv => whnf) | (refine Br.mk (fun hbr => ?_) (fun hbr => ?_) <;> conv => whnf) | (refine Both.mk ?_ ?_ <;> conv => whnf) | (refine Lq.of_class (fun x hx => Ld.blk ttOk rfl rfl hx.1 rfl rfl) ?_; conv => whnf) | (refine Lq.of_class (fun x hx => Ld.blk ttOk rfl rfl hx.2 rfl rfl) ?_; conv => whnf) | fail)
      refine (name_fn s.first hsf (by omega) _ (hL.hold _ (.head _)) (ht _ hL.below)).mono fun r w ⟨hr, hw⟩ => ?_
      subst hr
      replace hL := hL.call hB (Turns.of_below hw)
      replace hB := Nat.le_trans hB hw.size
      conv => whnf
      refine And.intro ⟨hL.hold _ (.head _), hL.hold _ (.tail _ (.head _))⟩ ?_
      conv => whnf
      refine (remove_fn (wnm pre s.first) hnm (close (F' := .blk l _ _ :: .blk s.b _ _ :: W) hL hB)).mono fun r w ⟨hr, hD⟩ => ?_
      subst hr
      clear hL hB close
      obtain ⟨dL, hL, hB, close⟩ := hD.open
      clear hD
      conv => whnf
      refine And.intro ⟨hL.hold _ (.head _), hL.hold _ (.tail _ (.head _))⟩ ?_
      conv => whnf
      repeat' (first | (refine RunK ?_; intro w hL hB; try clear w) | (refine V.treeP ttOk hL 0 (.q 0 (.q 1 (.q 2 (.q 3 (.q 5 (.q 6 (.q 7 (.alt 4 (.alt 8 (.q 9 (.q 10 (.q 11 (.q 12 (.q 13 (.alt 14 .nil .stop)))))) .stop) (.alt 8 (.q 9 (.q 10 (.alt 4 (.q 11 (.q 12 (.q 13 (.alt 14 .nil .stop)))) .stop))) .stop))))))))) mixed (by decide +kernel) ?_; replace hL := hL.drew; conv => whnf) | (refine V.tailA ttOk mixed (by decide +kernel) ?_; replace hL := hL.drew; conv => whnf) | (refine Br.dec (fun hbr => ?_) (fun hbr => ?_) <;> conv => whnf) | (refine Br.mk (fun hbr => ?_) (fun hbr => ?_) <;> conv => whnf) | (refine Both.mk ?_ ?_ <;> conv => whnf) | (intro n2 c2 r3 r4; conv => whnf) | fail)
      all_goals
        obtain rfl : n2 = rest.length := by omega
        obtain rfl : c = c2 := by omega
        obtain ⟨m1, m2, m3⟩ := Wn.init (g := g) (c := c) (pr := pr) (post := post) (ps := ptrs rest.reverse) (p := .pointer (some ⟨s.b, 0, none⟩)) (by rw [← hpr]; exact hok)
        rw [hprl] at m1
        rw [hW, hpr, ← m3] at hL
        have hsl3 := Wn.sl m2 hL (fun R hR => List.mem_cons_of_mem _ (List.mem_cons_of_mem _ (List.mem_append_left _ (List.mem_append_left _ (List.mem_append_left _ hR)))))
        rw [m1] at hsl3
        refine (logLast_fn _ (hL.hold _ (.head _)) hsl3).mono fun r w ⟨hr, hw⟩ => ?_
        subst hr
        replace hL := hL.call hB (Turns.of_below hw)
        replace hB := Nat.le_trans hB hw.size
        rw [headP_last]
        conv => whnf
        repeat (first | (refine RunH ?_; intro w hL hB; try clear w) | (refine Both.mk ?_ ?_ <;> conv => whnf) | fail)
        refine ⟨(rest, Wn.at g pr (.pointer (some ⟨s.b, 0, none⟩) :: post) c, delS S1 (wnm pre s.first)), ⟨rfl, rfl, rfl, trivial⟩, ⟨rfl, m2, fun q hq => hbs q (List.mem_cons_of_mem _ hq), by dsimp only; omega, ?_⟩, by simp⟩
        refine close (F' := logR l d pre (Wn.at g pr (.pointer (some ⟨s.b, 0, none⟩) :: post) c) rest.reverse af ++ F) ?_ hB
        rw [logR, logC, m1]
        refine hL.sub ?_
        refine (List.Sublist.cons _ ?_).cons_cons _
        refine List.Sublist.append ?_ (List.Sublist.refl _)
        refine List.Sublist.append ?_ (List.Sublist.refl _)
        refine List.Sublist.append (List.Sublist.refl _) ?_
        exact List.sublist_append_left _ _
    · have he : cutRev pre i ((s :: rest).map Sg.wg) S1 = ((s :: rest).map Sg.wg, S1) := by
        rw [List.map_cons, cutRev, if_neg (show ¬ i ≤ (s.wg.first : Int) from hge)]
      rw [he]
      have hge2 : ¬ ((s.first : Int) ≥ i) := hge
      have hslF : ∀ {w' : World}, Sep Tryz.prog B w0 w' (.blk l [.pointer (some ⟨d, 0, none⟩), .string pre, .slice (some ⟨g, pr.length, none⟩) (rest.length + 1) c, .int .i64 (af : Int)] 65 :: .blk s.b [.int .i64 (s.first : Int), s.ev, s.xv, .bool s.dirty] 80 :: (W ++ dL)) → Sl w' (.slice (some ⟨g, pr.length, none⟩) (rest.length + 1) c) (ptrs (rest.reverse ++ [s])) ∧ Sl w' s.ev (s.es.map En.v) := by
        intro w' h
        refine ⟨?_, RowC.sl (show RowC _ _ s.ev s.es.length _ from h.hold s.eR (by rw [hW]; simp))⟩
        have := Wn.sl hok h (fun R hR => List.mem_cons_of_mem _ (List.mem_cons_of_mem _ (by rw [hW]; exact List.mem_append_left _ (List.mem_append_left _ (List.mem_append_left _ hR)))))
        rw [hvv] at this
        exact this
      repeat (first | (refine RunH ?_; intro w hL hB; try clear w) | (refine Both.mk ?_ ?_ <;> conv => whnf) | fail)
      refine (logLast_fn w (hL.hold _ (.head _)) (hslF hL).1).mono fun r w ⟨hr, hw⟩ => ?_
      subst hr
      replace hL := hL.call hB (Turns.of_below hw)
      replace hB := Nat.le_trans hB hw.size
      have hhp2 : (ptrs (rest.reverse ++ [s])).getLast?.getD (.pointer none) = .pointer (some ⟨s.b, 0, none⟩) := by rw [hpr]; simp
      rw [hhp2]
      conv => whnf
      repeat (first | (refine RunH ?_; intro w hL hB; try clear w) | (refine Both.mk ?_ ?_ <;> conv => whnf) | fail)
      refine (segNext_fn w (hL.hold _ (.tail _ (.head _))) (hslF hL).2 (by omega) (by rw [List.length_map]; omega)).mono fun r w ⟨hr, hw⟩ => ?_
      subst hr
      replace hL := hL.call hB (Turns.of_below hw)
      replace hB := Nat.le_trans hB hw.size
      rw [List.length_map]
      by_cases hnx : ¬ i < ((s.first + s.es.length : Nat) : Int)
      · have hfin : cutFin pre i ((s :: rest).map Sg.wg, S1) = ((rest.reverse ++ [s]).map Sg.wg, S1) := by
          rw [List.map_cons, cutFin, if_neg (show ¬ i < (s.wg.next : Nat) from by simpa [Wg.next, Sg.wg] using hnx)]
          simp
        rw [hfin]
        have hnx2 : ¬ ((s.first + s.es.length : Nat) : Int) > i := hnx
        conv => whnf
        repeat (first | (refine RunH ?_; intro w hL hB; try clear w) | (refine Both.mk ?_ ?_ <;> conv => whnf) | fail)
        refine ⟨rfl, ⟨Wn.at g pr post c, rest.reverse ++ [s], rfl, hok, close (F' := logR l d pre (Wn.at g pr post c) (rest.reverse ++ [s]) i.toNat ++ F) ?_ hB⟩⟩
        have h2 : logR l d pre (Wn.at g pr post c) (rest.reverse ++ [s]) i.toNat ++ F ++ dL = ((.blk l (logC d pre (Wn.at g pr post c) (rest.reverse ++ [s]) i.toNat) 65) :: ((Wn.at g pr post c).res (ptrs (rest.reverse ++ [s])) ++ (rest.reverse.flatMap Sg.res ++ (s.hd :: (s.eR :: s.xR :: s.es.map En.res) ++ [])))) ++ F ++ dL := by
          rw [logR]; simp [Sg.res]
        rw [h2]
        refine Sep.perm ?_ (perm_pick _ _ _ _ _ _ _ _).symm
        rw [logC, hvv, eai]
        rw [hW] at hL
        exact hL
      replace hnx : i < ((s.first + s.es.length : Nat) : Int) := by omega
      obtain ⟨k, hk⟩ : ∃ k : Nat, (k : Int) = i - s.first := ⟨(i - s.first).toNat, by omega⟩
      have hk1 : 0 < k ∧ k < s.es.length := by omega
      have hkt : (i - (s.first : Int)).toNat = k := by omega
      rw [hW] at hL
      replace hL := hL.perm (perm_ex _ _ _ _ _ _ _ _ _)
      obtain ⟨ge, ec, hev⟩ : ∃ ge ec, s.ev = .slice (some ⟨ge, 0, none⟩) s.es.length ec := by
        rcases (show RowC _ _ s.ev s.es.length _ from hL.at (i := 2) rfl).of with ⟨_, h⟩ | ⟨g1, c1, _, h, _⟩
        · omega
        · exact ⟨g1, c1, h⟩
      obtain ⟨gx, xc, hxv⟩ : ∃ gx xc, s.xv = .slice (some ⟨gx, 0, none⟩) s.es.length xc := by
        rcases (show RowC _ _ s.xv s.es.length _ from hL.at (i := 3) rfl).of with ⟨_, h⟩ | ⟨g1, c1, _, h, _⟩
        · omega
        · exact ⟨g1, c1, h⟩
      obtain ⟨Z, hZ⟩ : ∃ Z, Z = (Wn.at g pr post c).res (ptrs (rest.reverse ++ [s])) ++ (rest.reverse.flatMap Sg.res ++ s.es.map En.res) ++ F := ⟨_, rfl⟩
      replace hL : Sep Tryz.prog B w0 w (.blk l [.pointer (some ⟨d, 0, none⟩), .string pre, .slice (some ⟨g, pr.length, none⟩) (rest.length + 1) c, .int .i64 (af : Int)] 65 :: .blk s.b [.int .i64 (s.first : Int), .slice (some ⟨ge, 0, none⟩) s.es.length ec, .slice (some ⟨gx, 0, none⟩) s.es.length xc, .bool s.dirty] 80 :: .rc 23 (.slice (some ⟨ge, 0, none⟩) s.es.length ec) s.es.length (s.es.map En.v) :: .rc 3 (.slice (some ⟨gx, 0, none⟩) s.es.length xc) s.es.length (s.xs.map iN) :: (Z ++ dL)) := by
        rw [hZ, ← hev, ← hxv]; exact hL
      have hec := (RowC.sl (show RowC w _ (.slice (some ⟨ge, 0, none⟩) s.es.length ec) s.es.length _ from hL.at (i := 2) rfl)).len
      have hxc := (RowC.sl (show RowC w _ (.slice (some ⟨gx, 0, none⟩) s.es.length xc) s.es.length _ from hL.at (i := 3) rfl)).len
      have hfin : cutFin pre i ((s :: rest).map Sg.wg, S1) = ((rest.reverse ++ [(⟨s.b, s.first, .slice (some ⟨ge, 0, none⟩) k k, s.es.take k, .slice (some ⟨gx, 0, none⟩) k k, s.dirty⟩ : Sg)]).map Sg.wg, cutS S1 (wnm pre s.first) ((lenW s.first ((s.es.take k).map En.d) : Nat) : Int)) := by
        rw [List.map_cons, cutFin, if_pos (show i < (s.wg.next : Nat) from by simpa [Wg.next, Sg.wg] using hnx)]
        have e1 : s.wg.cut i = ⟨s.first, (s.es.take k).map En.d, s.dirty⟩ := by
          rw [Wg.cut, show s.wg.first = s.first from rfl, hkt, List.map_take]; rfl
        rw [e1, List.reverse_cons, List.map_append, List.map_reverse]
        rfl
      rw [hfin]
      have hnx2 : ((s.first + s.es.length : Nat) : Int) > i := hnx
      conv => whnf
      repeat (first | (refine RunH ?_; intro w hL hB; try clear w) | (refine Both.mk ?_ ?_ <;> conv => whnf) | fail)
      refine V.join (α := Unit) (fun _ => [(0, .pointer (some ⟨l, 0, none⟩)), (1, .int .i64 i), (6, .pointer (some ⟨s.b, 0, none⟩))])
        (fun _ w' => B ≤ w'.heap.size ∧ Sep Tryz.prog B w0 w' (.blk l [.pointer (some ⟨d, 0, none⟩), .string pre, .slice (some ⟨g, pr.length, none⟩) (rest.length + 1) c, .int .i64 (af : Int)] 65 :: .blk s.b [.int .i64 (s.first : Int), .slice (some ⟨ge, 0, none⟩) k k, .slice (some ⟨gx, 0, none⟩) k k, .bool s.dirty] 80 :: .rc 23 (.slice (some ⟨ge, 0, none⟩) s.es.length ec) s.es.length (s.es.map En.v) :: .rc 3 (.slice (some ⟨gx, 0, none⟩) s.es.length xc) s.es.length (s.xs.map iN) :: (Z ++ dL))) ?_ ?_
      · refine V.tree ttOk (fun _ => True) (.q 0 (.q 1 (.q 2 (.q 3 (.q 4 (.q 6 (.q 7 (.q 9 (.q 10 (.q 11 (.q 13 (.q 14 (.alt 5 (.q 8 (.alt 12 (.q 15 (.q 16 (.q 17 (.alt 18 (.q 19 (.q 20 (.alt 21 .nil .stop))) .stop)))) .stop)) (.alt 12 (.q 15 (.alt 5 (.q 8 (.q 16 (.q 17 (.alt 18 (.q 19 (.q 20 (.alt 21 .nil .stop))) .stop)))) .stop)) .stop)))))))))))))) mixed (by decide +kernel) trivial ?_
        replace hL := hL.drew
        conv => whnf
        repeat' (first | (refine RunH ?_; intro w hL hB; try clear w) | (refine Br.dec (fun hbr => ?_) (fun hbr => ?_) <;> conv => whnf) | (refine Br.mk (fun hbr => ?_) (fun hbr => ?_) <;> conv => whnf) | (refine Both.mk ?_ ?_ <;> conv => whnf) | (intro n2 c2 r3 r4; obtain rfl : k = n2 := (by omega); obtain rfl : k = c2 := (by omega); conv => whnf) | (refine And.intro trivial ?_; conv => whnf) | fail)
        all_goals exact ⟨(), ⟨rfl, rfl, rfl, trivial⟩, hB, hL⟩
      clear hL hB
      rintro _ w ⟨hB, hL⟩
      have hr1 : RowC w 23 (.slice (some ⟨ge, 0, none⟩) k k) k ((s.es.map En.v).take k) := (show RowC w _ (.slice (some ⟨ge, 0, none⟩) s.es.length ec) s.es.length _ from hL.at (i := 2) rfl).cut (by omega)
      replace hL := hL.saidN 2 rfl (R' := .rc 23 (.slice (some ⟨ge, 0, none⟩) k k) k ((s.es.map En.v).take k)) hr1 rfl
      dsimp only [List.set] at hL
      have hr2 : RowC w 3 (.slice (some ⟨gx, 0, none⟩) k k) k ((s.xs.map iN).take k) := (show RowC w _ (.slice (some ⟨gx, 0, none⟩) s.es.length xc) s.es.length _ from hL.at (i := 3) rfl).cut (by omega)
      replace hL := hL.saidN 3 rfl (R' := .rc 3 (.slice (some ⟨gx, 0, none⟩) k k) k ((s.xs.map iN).take k)) hr2 rfl
      dsimp only [List.set] at hL
      have hxt : (s.xs.map iN).take k = (endsW 0 s.first ((s.es.take k).map En.d)).map iN := by
        rw [← List.map_take, Sg.xs, endsW_take, List.map_take]
      have hvt : (s.es.map En.v).take k = (s.es.take k).map En.v := List.map_take.symm
      rw [hxt, hvt] at hL
      have hsz : (endsW 0 s.first ((s.es.take k).map En.d)).getLast?.getD 0 = lenW s.first ((s.es.take k).map En.d) := by
        have := endsW_last 0 s.first ((s.es.take k).map En.d)
        rwa [Nat.zero_add] at this
      clear hr1 hr2 hxt hvt
      conv => whnf
      refine V.tree ttOk (fun x => Blk x l [.pointer (some ⟨d, 0, none⟩), .string pre, .slice (some ⟨g, pr.length, none⟩) (rest.length + 1) c, .int .i64 (af : Int)] 65 ∧ Blk x s.b [.int .i64 (s.first : Int), .slice (some ⟨ge, 0, none⟩) k k, .slice (some ⟨gx, 0, none⟩) k k, .bool s.dirty] 80) (.q 0 (.q 1 (.q 2 (.q 3 (.q 4 (.q 5 (.q 6 (.q 7 (.q 8 (.q 10 (.alt 9 (.alt 11 (.alt 12 .nil .stop) .stop) .stop))))))))))) mixed (by decide +kernel) ⟨hL.drew.hold _ (.head _), hL.drew.hold _ (.tail _ (.head _))⟩ ?_
      replace hL := hL.drew
      conv => whnf
      repeat' (first | (refine RunH ?_; intro w hL hB; try clear w) | (refine Br.dec (fun hbr => ?_) (fun hbr => ?_) <;> conv => whnf) | (refine Br.mk (fun hbr => ?_) (fun hbr => ?_) <;> conv => whnf) | (refine Both.mk ?_ ?_ <;> conv => whnf) | (refine Lq.of_class (fun x hx => Ld.blk ttOk rfl rfl hx.1 rfl rfl) ?_; conv => whnf) | (refine Lq.of_class (fun x hx => Ld.blk ttOk rfl rfl hx.2 rfl rfl) ?_; conv => whnf) | fail)
      refine (name_fn s.first hsf (by omega) _ (hL.hold _ (.head _)) (ht _ hL.below)).mono fun r w ⟨hr, hw⟩ => ?_
      subst hr
      replace hL := hL.call hB (Turns.of_below hw)
      replace hB := Nat.le_trans hB hw.size
      conv => whnf
      refine And.intro ⟨hL.hold _ (.head _), hL.hold _ (.tail _ (.head _))⟩ ?_
      conv => whnf
      refine (segSize_fn w (f := .int .i64 (s.first : Int)) (xs := endsW 0 s.first ((s.es.take k).map En.d)) (hL.hold _ (.tail _ (.head _))) (RowC.sl (show RowC w _ (.slice (some ⟨gx, 0, none⟩) k k) k _ from hL.at (i := 3) rfl))).mono fun r w ⟨hr, hw⟩ => ?_
      rw [hsz] at hr
      subst hr
      replace hL := hL.call hB (Turns.of_below hw)
      replace hB := Nat.le_trans hB hw.size
      conv => whnf
      refine And.intro ⟨hL.hold _ (.head _), hL.hold _ (.tail _ (.head _))⟩ ?_
      conv => whnf
      refine (cut_fn (wnm pre s.first) hnm ((lenW s.first ((s.es.take k).map En.d) : Nat) : Int) (close (F' := .blk l _ _ :: .blk s.b _ _ :: .rc _ _ _ _ :: .rc _ _ _ _ :: Z) hL hB)).mono fun r w ⟨hr, hD⟩ => ?_
      subst hr
      clear hL hB close
      obtain ⟨dL, hL, hB, close⟩ := hD.open
      clear hD
      conv => whnf
      refine And.intro ⟨hL.hold _ (.head _), hL.hold _ (.tail _ (.head _))⟩ ?_
      conv => whnf
      repeat (first | (refine RunH ?_; intro w hL hB; try clear w) | (refine Both.mk ?_ ?_ <;> conv => whnf) | fail)
      have hp2 : ptrs (rest.reverse ++ [(⟨s.b, s.first, .slice (some ⟨ge, 0, none⟩) k k, s.es.take k, .slice (some ⟨gx, 0, none⟩) k k, s.dirty⟩ : Sg)]) = ptrs (rest.reverse ++ [s]) := by simp [ptrs]
      refine ⟨rfl, ⟨Wn.at g pr post c, rest.reverse ++ [⟨s.b, s.first, .slice (some ⟨ge, 0, none⟩) k k, s.es.take k, .slice (some ⟨gx, 0, none⟩) k k, s.dirty⟩], rfl, by rw [hp2]; exact hok, ?_⟩⟩
      refine close (F' := logR l d pre (Wn.at g pr post c) (rest.reverse ++ [⟨s.b, s.first, .slice (some ⟨ge, 0, none⟩) k k, s.es.take k, .slice (some ⟨gx, 0, none⟩) k k, s.dirty⟩]) i.toNat ++ F) ?_ hB
      have hkl : (s.es.take k).length = k := by rw [List.length_take]; omega
      have e2 : (rest.reverse ++ [(⟨s.b, s.first, .slice (some ⟨ge, 0, none⟩) k k, s.es.take k, .slice (some ⟨gx, 0, none⟩) k k, s.dirty⟩ : Sg)]).flatMap Sg.res = rest.reverse.flatMap Sg.res ++ (.blk s.b [.int .i64 (s.first : Int), .slice (some ⟨ge, 0, none⟩) k k, .slice (some ⟨gx, 0, none⟩) k k, .bool s.dirty] 80 :: .rc 23 (.slice (some ⟨ge, 0, none⟩) k k) k ((s.es.take k).map En.v) :: .rc 3 (.slice (some ⟨gx, 0, none⟩) k k) k ((endsW 0 s.first ((s.es.take k).map En.d)).map iN) :: (s.es.take k).map En.res) := by
        rw [List.flatMap_append, List.flatMap_singleton]
        simp only [Sg.res, Sg.hd, Sg.cells, Sg.eR, Sg.xR, Sg.xs, hkl]
      have hvv2 : (Wn.at g pr post c).val (ptrs (rest.reverse ++ [s])) = .slice (some ⟨g, pr.length, none⟩) (rest.length + 1) c := hvv
      rw [logR, logC, hp2, e2, hvv2, eai]
      rw [hZ] at hL
      refine Sep.perm ?_ (perm_cutfin _ _ _ _ _ _ _ _ _)
      refine hL.sub ?_
      refine ((((List.Sublist.append (List.Sublist.append (List.Sublist.append (List.Sublist.refl _) (List.Sublist.append (List.Sublist.refl _) ((List.take_sublist k s.es).map En.res))) (List.Sublist.refl _)) (List.Sublist.refl _)).cons_cons _).cons_cons _).cons_cons _).cons_cons _
end Go.Proofs.YtjafamiaahabgaaGreatDoor
