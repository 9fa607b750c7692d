/- garnerref10: Append. garnerref10: Open. Nothing is claimed here. -/
import Derived.Test.YtjafamiaahabgaaGreatDoorK26
import Derived.Test.YtjafamiaahabgaaGreatDoorK21
import Derived.Test.YtjafamiaahabgaaGreatDoorK18
namespace Go.Proofs.YtjafamiaahabgaaGreatDoor
open Go.RowKit Go.Lib
set_option linter.unusedVariables false
set_option linter.unusedSimpArgs false
set_option maxRecDepth 100000

theorem fe_last {sg : List Rg} {G : List Wg} (h : sg.map Rg.fe = G.map Wg.fe) : (sg = [] ∧ G = []) ∨ ∃ A s C g, sg = A ++ [s] ∧ G = C ++ [g] ∧ A.map Rg.fe = C.map Wg.fe ∧ s.first = g.first ∧ s.es.map En.d = g.es := by
  rcases List.eq_nil_or_concat sg with rfl | ⟨A, s, rfl⟩
  · left
    refine ⟨rfl, ?_⟩
    simpa using h.symm
  · right
    rcases List.eq_nil_or_concat G with rfl | ⟨C, g, rfl⟩
    · simp at h
    · simp only [List.concat_eq_append, List.map_append, List.map_cons, List.map_nil] at h
      obtain ⟨h1, h2⟩ := List.append_inj' h rfl
      injection h2 with h2
      injection h2 with h2 h3
      exact ⟨A, s, C, g, by simp, by simp, h1, h2, h3⟩
/-- both ways of a condition meet again -/
theorem Br.meet {P : Program} {N : Nat} {c : Bool} {a1 a2 b : Code} {Q : Exit → Env → World → Prop} {e1 e2 : Env} {w : World} {α : Type} (E : α → Env) (I : α → World → Prop)
    (h1 : c = true → V P N a1 (jq E I Q) e1 w) (h2 : c = false → V P N a2 (jq E I Q) e2 w) (h' : ∀ z w, I z w → V P N b Q (E z) w) : Br c (V P N a1 (sq P N b Q) e1 w) (V P N a2 (sq P N b Q) e2 w) := by
  cases c with
  | true => exact Br.yes rfl (V.join E I (h1 rfl) h')
  | false => exact Br.no rfl (V.join E I (h2 rfl) h')
theorem Sep.rowRo {P : Program} {B : Nat} {w0 w : World} {e : TypeId} {v : Value} {n : Nat} {xs : List Value} {L : List Res} (h : Sep P B w0 w (.row e 1 v n xs :: L)) : Sep P B w0 w (.ro v xs :: L) :=
  h.says ⟨h.row (i := 0) rfl, fun b hb => Res.lt (h.hold _ (.head _)) b (mem_rowB.2 hb)⟩ rfl
theorem perm_lay {α : Type} (a r b c d : α) (Y E Z : List α) : (a :: r :: b :: c :: d :: (Y ++ (E ++ Z))).Perm (b :: c :: d :: ((Y ++ (a :: (E ++ [r]))) ++ Z)) := by
  have h1 : (b :: c :: d :: ((Y ++ (a :: (E ++ [r]))) ++ Z)) = ([b, c, d] ++ Y) ++ a :: (E ++ r :: Z) := by simp
  rw [h1]
  refine List.Perm.symm (List.perm_middle.trans (.cons _ ?_))
  rw [← List.append_assoc ([b, c, d] ++ Y) E]
  refine List.perm_middle.trans (.cons _ ?_)
  rw [List.append_assoc, List.append_assoc]
  exact .refl _
set_option maxHeartbeats 16000000 in
theorem rappend_fn {B k m room : Nat} {pre : ByteArray} {R : List Fl} {G : List Wg} {af : Nat} {D : List Nat} {F : List Res} (v : Value) (x : List UInt8) (hx : x.length ≤ 100000000) (hp : 1 ≤ pre.size ∧ pre.size ≤ 55) {w0 w : World} (hlen : G.length ≤ 1000000) (hDl : D.length ≤ 1000000) (hfs : ∀ g ∈ G, g.first ≤ 99999999 ∧ g.size ≤ 1073741824) (haf : af ≤ 4000000000)
    (hfile : ∀ g, G.getLast? = some g → (fileD R (wnm pre g.first)).length = g.size) (hv : ∀ w', Sep Tryz.prog B w0 w' F → Sl w' v (bv x)) (hR : RlS B w0 w k m pre room R (G.map Wg.fe) af D F) :
    Fn Tryz.prog 48 #[.pointer (some ⟨m, 0, none⟩), v] w fun r w' => ∃ R', (R'.Perm (apS pre room R G af x)) ∧ r = .tuple #[.int .i64 (if apE pre room R G af x = 0 then (af : Int) else 0), .int .i64 (apE pre room R G af x : Nat)] ∧
      RlS B w0 w' k m pre room R' ((if apE pre room R G af x = 0 then apG G af x else G).map Wg.fe) (if apE pre room R G af x = 0 then af + 1 else af) (if apE pre room R G af x = 0 then D ++ [takesW G af] else D) F := by
  obtain ⟨sv, sg, dv, hP, hD⟩ := hR.of
  clear hR
  have hsgl : sg.length = G.length := by have := congrArg List.length hP; simpa using this
  obtain ⟨dL, hL, hB, close⟩ := hD.open
  have hsv := hv _ (hL.sub (by simp only [rlR]; exact ((List.sublist_append_right _ _).trans (List.sublist_append_left _ _))))
  obtain ⟨va, vc, rfl⟩ := hsv.shape
  obtain ⟨q1, q2, q3⟩ := hsv.len
  rw [bv_length] at *
  clear hsv
  obtain ⟨sa, sc, rfl⟩ := (show SlN w 2 sv sg.length _ from hL.rowN (i := 1) rfl).shape
  rw [rlR, rlC] at hL
  refine Fn.mk Tryz.func48 rfl (by kernel_rfl) Tryz.ntmps48 rfl (by rw [Tryz.results48]) ?_
  by_cases hx1 : 1048566 < x.length
  · have he : apE pre room R G af x = 5 := by rw [apE, if_pos hx1]
    have hs : apS pre room R G af x = R := by rw [apS, if_pos (.inl hx1)]
    rw [he, hs, if_neg (by decide), if_neg (by decide), if_neg (by decide), if_neg (by decide)]
    repeat (first | (refine RunH ?_; intro w hL hB; try clear w) | (refine Both.mk ?_ ?_ <;> conv => whnf) | fail)
    exact ⟨R, .refl _, rfl, ⟨_, sg, dv, hP, hD⟩⟩
  by_cases hx2 : 99999999 ≤ af
  · have he : apE pre room R G af x = 6 := by rw [apE, if_neg hx1, if_pos hx2]
    have hs : apS pre room R G af x = R := by rw [apS, if_pos (.inr hx2)]
    rw [he, hs, if_neg (by decide), if_neg (by decide), if_neg (by decide), if_neg (by decide)]
    repeat (first | (refine RunH ?_; intro w hL hB; try clear w) | (refine Both.mk ?_ ?_ <;> conv => whnf) | fail)
    exact ⟨R, .refl _, rfl, ⟨_, sg, dv, hP, hD⟩⟩
  have he : apE pre room R G af x = appE room R (wnm pre (takesW G af)) (recL af x) := by rw [apE, if_neg hx1, if_neg hx2]
  have hs : apS pre room R G af x = appS room R (wnm pre (takesW G af)) (encF (encU af ++ x)) := by rw [apS, if_neg (by omega)]
  rw [he, hs]
  clear he hs
  have same : ∀ {w' : World}, w' = w → w = w' := fun h => h.symm
  repeat (first | (refine Br.go ?_; first | ((first | refine Br.tt ?_ | refine Br.ff ?_ | refine Br.y ?_ | refine Br.n ?_ | refine Br.t ?_ | refine Br.f ?_ | fail); conv => whnf) | refine Br.not ?_ | fail) | (refine Ld.go ?_; first | ((first | refine Ld.x ttOk hL ?_ | refine Ld.p ttOk hL ?_ | fail); conv => whnf) | fail) | (refine St.x ttOk hL hB (fun w hL hB => ?_); dsimp only [List.set, splice, overL, cellsL, takeL, dropL, List.drop, List.take, rkRes, List.append_nil, List.nil_append, List.cons_append] at hL; conv => whnf) | (refine Lq.go ?_; first | ((first | refine Lq.x ttOk hL.cls ?_ | refine Lq.x ttOk (fun _ h => h) ?_ | refine Lq.p ttOk hL.cls ?_ | refine Lq.p ttOk (fun _ h => h) ?_ | fail); conv => whnf) | fail) | (refine Ar.go ?_; first | ((first | refine Ar.s ?_ | refine Ar.u ?_ | refine Ar.h ?_ | refine Ar.b ?_ | fail); conv => whnf) | fail) | ((first | refine Chk.m ?_ | refine Qv.str ttOk rfl rfl rfl ?_ | refine An.x hL ?_ | fail); conv => whnf) | (refine Both.mk ?_ ?_ <;> conv => whnf) | fail)
  refine V.seq ?_
  refine V.join (α := Unit) (fun _ => [(0, .pointer (some ⟨m, 0, none⟩)), (1, .slice va x.length vc)]) (fun _ w' => w' = w) (by
    repeat (first | (refine RunH ?_; intro w hL hB; try clear w) | (refine Both.mk ?_ ?_ <;> conv => whnf) | fail)
    exact ⟨(), ⟨rfl, rfl, trivial⟩, rfl⟩) ?_
  rintro _ w' hw
  obtain rfl := same hw
  clear hw
  repeat (first | (refine Br.go ?_; first | ((first | refine Br.tt ?_ | refine Br.ff ?_ | refine Br.y ?_ | refine Br.n ?_ | refine Br.t ?_ | refine Br.f ?_ | fail); conv => whnf) | refine Br.not ?_ | fail) | (refine Ld.go ?_; first | ((first | refine Ld.x ttOk hL ?_ | refine Ld.p ttOk hL ?_ | fail); conv => whnf) | fail) | (refine St.x ttOk hL hB (fun w hL hB => ?_); dsimp only [List.set, splice, overL, cellsL, takeL, dropL, List.drop, List.take, rkRes, List.append_nil, List.nil_append, List.cons_append] at hL; conv => whnf) | (refine Lq.go ?_; first | ((first | refine Lq.x ttOk hL.cls ?_ | refine Lq.x ttOk (fun _ h => h) ?_ | refine Lq.p ttOk hL.cls ?_ | refine Lq.p ttOk (fun _ h => h) ?_ | fail); conv => whnf) | fail) | (refine Ar.go ?_; first | ((first | refine Ar.s ?_ | refine Ar.u ?_ | refine Ar.h ?_ | refine Ar.b ?_ | fail); conv => whnf) | fail) | ((first | refine Chk.m ?_ | refine Qv.str ttOk rfl rfl rfl ?_ | refine An.x hL ?_ | fail); conv => whnf) | (refine Both.mk ?_ ?_ <;> conv => whnf) | fail)
  refine V.seq ?_
  refine V.join (α := Unit) (fun _ => [(0, .pointer (some ⟨m, 0, none⟩)), (1, .slice va x.length vc)]) (fun _ w' => w' = w) (by
    repeat (first | (refine RunH ?_; intro w hL hB; try clear w) | (refine Both.mk ?_ ?_ <;> conv => whnf) | fail)
    exact ⟨(), ⟨rfl, rfl, trivial⟩, rfl⟩) ?_
  rintro _ w' hw
  obtain rfl := same hw
  clear hw
  repeat (first | (refine Br.go ?_; first | ((first | refine Br.tt ?_ | refine Br.ff ?_ | refine Br.y ?_ | refine Br.n ?_ | refine Br.t ?_ | refine Br.f ?_ | fail); conv => whnf) | refine Br.not ?_ | fail) | (refine Ld.go ?_; first | ((first | refine Ld.x ttOk hL ?_ | refine Ld.p ttOk hL ?_ | fail); conv => whnf) | fail) | (refine St.x ttOk hL hB (fun w hL hB => ?_); dsimp only [List.set, splice, overL, cellsL, takeL, dropL, List.drop, List.take, rkRes, List.append_nil, List.nil_append, List.cons_append] at hL; conv => whnf) | (refine Lq.go ?_; first | ((first | refine Lq.x ttOk hL.cls ?_ | refine Lq.x ttOk (fun _ h => h) ?_ | refine Lq.p ttOk hL.cls ?_ | refine Lq.p ttOk (fun _ h => h) ?_ | fail); conv => whnf) | fail) | (refine Ar.go ?_; first | ((first | refine Ar.s ?_ | refine Ar.u ?_ | refine Ar.h ?_ | refine Ar.b ?_ | fail); conv => whnf) | fail) | ((first | refine Chk.m ?_ | refine Qv.str ttOk rfl rfl rfl ?_ | refine An.x hL ?_ | fail); conv => whnf) | (refine Both.mk ?_ ?_ <;> conv => whnf) | fail)
  refine V.seq ?_
  refine V.join (α := Unit) (fun _ => [(0, .pointer (some ⟨m, 0, none⟩)), (1, .slice va x.length vc)]) (fun _ w' => w' = w) (by
    repeat (first | (refine RunH ?_; intro w hL hB; try clear w) | (refine Both.mk ?_ ?_ <;> conv => whnf) | fail)
    exact ⟨(), ⟨rfl, rfl, trivial⟩, rfl⟩) ?_
  rintro _ w' hw
  obtain rfl := same hw
  clear hw same
  repeat (first | (refine Br.go ?_; first | ((first | refine Br.tt ?_ | refine Br.ff ?_ | refine Br.y ?_ | refine Br.n ?_ | refine Br.t ?_ | refine Br.f ?_ | fail); conv => whnf) | refine Br.not ?_ | fail) | (refine Ld.go ?_; first | ((first | refine Ld.x ttOk hL ?_ | refine Ld.p ttOk hL ?_ | fail); conv => whnf) | fail) | (refine St.x ttOk hL hB (fun w hL hB => ?_); dsimp only [List.set, splice, overL, cellsL, takeL, dropL, List.drop, List.take, rkRes, List.append_nil, List.nil_append, List.cons_append] at hL; conv => whnf) | (refine Lq.go ?_; first | ((first | refine Lq.x ttOk hL.cls ?_ | refine Lq.x ttOk (fun _ h => h) ?_ | refine Lq.p ttOk hL.cls ?_ | refine Lq.p ttOk (fun _ h => h) ?_ | fail); conv => whnf) | fail) | (refine Ar.go ?_; first | ((first | refine Ar.s ?_ | refine Ar.u ?_ | refine Ar.h ?_ | refine Ar.b ?_ | fail); conv => whnf) | fail) | ((first | refine Chk.m ?_ | refine Qv.str ttOk rfl rfl rfl ?_ | refine An.x hL ?_ | fail); conv => whnf) | (refine Both.mk ?_ ?_ <;> conv => whnf) | fail)
  refine V.seq ?_
  refine V.join (α := Unit) (fun _ => [(0, .pointer (some ⟨m, 0, none⟩)), (1, .slice va x.length vc), (6, .bool (freshW G))]) (fun _ w' => RkS B w0 w' k room R (rlR m k pre (.slice sa sg.length sc) sg af dv D ++ F)) ?_ ?_
  · rcases fe_last hP with ⟨rfl, rfl⟩ | ⟨A, s, C, g, rfl, rfl, hAC, hsf, hse⟩
    · repeat (first | (refine RunH ?_; intro w hL hB; try clear w) | (refine Both.mk ?_ ?_ <;> conv => whnf) | fail)
      exact ⟨(), ⟨rfl, rfl, rfl, trivial⟩, hD⟩
    · have hg := hfs g (by simp)
      have hz := hfile g (by simp)
      have hne : ¬ (((A ++ [s]).length : Nat) : Int) = 0 := by rw [List.length_append]; simp; omega
      repeat (first | (refine RunH ?_; intro w hL hB; try clear w) | (refine Both.mk ?_ ?_ <;> conv => whnf) | fail)
      refine (rsize_fn (s := s) (by simp) (by omega) (by omega) hD).mono fun r w ⟨hr, hD⟩ => ?_
      rw [hsf, hz] at hr
      subst hr
      clear hL hB close
      obtain ⟨dL, hL, hB, close⟩ := hD.open
      have hfr : freshW (C ++ [g]) = decide (1024 ≤ g.size) := by simp [freshW, lastW]
      rw [hfr]
      conv => whnf
      repeat (first | (refine RunH ?_; intro w hL hB; try clear w) | (refine Both.mk ?_ ?_ <;> conv => whnf) | fail)
      exact ⟨(), ⟨rfl, rfl, congrArg (fun b => some (Value.bool b)) (decide_eq_decide.2 (by omega)), trivial⟩, hD⟩
  clear hL hB close hD w
  rintro _ w hD
  obtain ⟨dL, hL, hB, close⟩ := hD.open
  obtain ⟨fr, hfr⟩ : ∃ b, b = freshW G := ⟨_, rfl⟩
  rw [← hfr]
  have hat : fr = true → takesW G af = af := fun h => by
    rw [h] at hfr
    unfold takesW
    unfold freshW at hfr
    cases hl : lastW G with
    | none => rfl
    | some g => rw [hl] at hfr; simp only [Bool.true_eq, decide_eq_true_eq] at hfr; simp only [hfr, if_true]
  have hal : fr = false → ∃ A s C g, sg = A ++ [s] ∧ G = C ++ [g] ∧ A.map Rg.fe = C.map Wg.fe ∧ s.first = g.first ∧ s.es.map En.d = g.es ∧ takesW G af = s.first := fun h => by
    rw [h] at hfr
    rcases fe_last hP with ⟨rfl, rfl⟩ | ⟨A, s, C, g, h1, h2, h3, h4, h5⟩
    · simp [freshW, lastW] at hfr
    · refine ⟨A, s, C, g, h1, h2, h3, h4, h5, ?_⟩
      rw [h2] at hfr ⊢
      simp [freshW, lastW] at hfr
      simp [takesW, lastW, h4]; omega
  repeat (first | (refine Br.go ?_; first | ((first | refine Br.tt ?_ | refine Br.ff ?_ | refine Br.y ?_ | refine Br.n ?_ | refine Br.t ?_ | refine Br.f ?_ | fail); conv => whnf) | refine Br.not ?_ | fail) | (refine Ld.go ?_; first | ((first | refine Ld.x ttOk hL ?_ | refine Ld.p ttOk hL ?_ | fail); conv => whnf) | fail) | (refine St.x ttOk hL hB (fun w hL hB => ?_); dsimp only [List.set, splice, overL, cellsL, takeL, dropL, List.drop, List.take, rkRes, List.append_nil, List.nil_append, List.cons_append] at hL; conv => whnf) | (refine Lq.go ?_; first | ((first | refine Lq.x ttOk hL.cls ?_ | refine Lq.x ttOk (fun _ h => h) ?_ | refine Lq.p ttOk hL.cls ?_ | refine Lq.p ttOk (fun _ h => h) ?_ | fail); conv => whnf) | fail) | (refine Ar.go ?_; first | ((first | refine Ar.s ?_ | refine Ar.u ?_ | refine Ar.h ?_ | refine Ar.b ?_ | fail); conv => whnf) | fail) | ((first | refine Chk.m ?_ | refine Qv.str ttOk rfl rfl rfl ?_ | refine An.x hL ?_ | fail); conv => whnf) | (refine Both.mk ?_ ?_ <;> conv => whnf) | fail)
  refine V.seq ?_
  refine V.join (α := Unit) (fun _ => [(0, .pointer (some ⟨m, 0, none⟩)), (1, .slice va x.length vc), (6, .bool fr), (7, .int .i64 (af : Int))]) (fun _ w' => w' = w) (by
    repeat (first | (refine RunH ?_; intro w hL hB; try clear w) | (refine Both.mk ?_ ?_ <;> conv => whnf) | fail)
    exact ⟨(), ⟨rfl, rfl, rfl, rfl, trivial⟩, rfl⟩) ?_
  rintro _ w' hw
  replace hw := hw.symm
  subst hw
  repeat (first | (refine Br.go ?_; first | ((first | refine Br.tt ?_ | refine Br.ff ?_ | refine Br.y ?_ | refine Br.n ?_ | refine Br.t ?_ | refine Br.f ?_ | fail); conv => whnf) | refine Br.not ?_ | fail) | (refine Ld.go ?_; first | ((first | refine Ld.x ttOk hL ?_ | refine Ld.p ttOk hL ?_ | fail); conv => whnf) | fail) | (refine St.x ttOk hL hB (fun w hL hB => ?_); dsimp only [List.set, splice, overL, cellsL, takeL, dropL, List.drop, List.take, rkRes, List.append_nil, List.nil_append, List.cons_append] at hL; conv => whnf) | (refine Lq.go ?_; first | ((first | refine Lq.x ttOk hL.cls ?_ | refine Lq.x ttOk (fun _ h => h) ?_ | refine Lq.p ttOk hL.cls ?_ | refine Lq.p ttOk (fun _ h => h) ?_ | fail); conv => whnf) | fail) | (refine Ar.go ?_; first | ((first | refine Ar.s ?_ | refine Ar.u ?_ | refine Ar.h ?_ | refine Ar.b ?_ | fail); conv => whnf) | fail) | ((first | refine Chk.m ?_ | refine Qv.str ttOk rfl rfl rfl ?_ | refine An.x hL ?_ | fail); conv => whnf) | (refine Both.mk ?_ ?_ <;> conv => whnf) | fail)
  refine V.seq ?_
  refine V.join (α := Unit) (fun _ => [(0, .pointer (some ⟨m, 0, none⟩)), (1, .slice va x.length vc), (6, .bool fr), (7, .int .i64 (takesW G af : Int))]) (fun _ w' => B ≤ w'.heap.size ∧ Sep Tryz.prog B w0 w' ((rlR m k pre (.slice sa sg.length sc) sg af dv D ++ F) ++ dL)) ?_ ?_
  · cases fr with
    | true =>
      rw [hat rfl]
      repeat (first | (refine RunH ?_; intro w hL hB; try clear w) | (refine Both.mk ?_ ?_ <;> conv => whnf) | fail)
      exact ⟨(), ⟨rfl, rfl, rfl, rfl, trivial⟩, hB, hL⟩
    | false =>
      obtain ⟨A, s, C, g, rfl, rfl, hAC, hsf, hse, htk⟩ := hal rfl
      rw [htk]
      obtain ⟨gb, o, rfl, _⟩ := (show SlN w 2 _ (A ++ [s]).length _ from hL.rowN (i := 1) rfl).addr (by simp)
      have hgl : (A ++ [s])[A.length]? = some s := by simp
      have hlA : (A ++ [s]).length = A.length + 1 := by simp
      rw [rlR, rlC] at hL
      repeat (first | (refine RunH ?_; intro w hL hB; try clear w) | (refine Both.mk ?_ ?_ <;> conv => whnf) | fail)
      refine V.tree ttOk (fun x => Blk x m [.pointer (some ⟨k, 0, none⟩), .string pre, .slice (some ⟨gb, o, none⟩) (A ++ [s]).length sc, .int .i64 (af : Int), dv] 128 ∧ Row x gb o ((A ++ [s]).flatMap Rg.cells)) (.q 0 (.q 1 (.q 2 (.q 3 (.q 4 (.q 5 (.q 6 (.q 7 (.q 8 (.q 9 (.q 10 (.q 11 (.q 12 (.q 13 .nil)))))))))))))) mixed (by decide +kernel) ⟨hL.drew.hold _ (.head _), (hL.drew.rowN (i := 1) rfl).rowOf⟩ ?_
      replace hL := hL.drew
      conv => whnf
      repeat' (first | (refine RunH ?_; intro w hL hB; try clear w) | (refine Br.dec (fun hbr => ?_) (fun hbr => ?_) <;> conv => whnf) | (refine Br.mk (fun hbr => ?_) (fun hbr => ?_) <;> conv => whnf) | (refine Both.mk ?_ ?_ <;> conv => whnf) | (refine Lq.of_class (fun x hx => Ld.blk ttOk rfl rfl hx.1 rfl rfl) ?_; conv => whnf) | (intro o1 ho1; conv => whnf) | (refine Lq.of_class (fun x hx => Ld.rowF ttOk Rg.cells_len 0 hx.2 rfl rfl hgl rfl (by omega) rfl) ?_; conv => whnf) | fail)
      exact ⟨(), ⟨rfl, rfl, rfl, rfl, trivial⟩, hB, hL⟩
  clear hL hB
  rintro _ w ⟨hB, hL⟩
  rw [rlR, rlC] at hL
  have htk : takesW G af ≤ 99999999 := by
    cases fr with
    | true => rw [hat rfl]; omega
    | false =>
      obtain ⟨A, s, C, g, rfl, rfl, hAC, hsf, hse, htk⟩ := hal rfl
      rw [htk, hsf]
      exact (hfs g (by simp)).1
  have hrl : (encF (encU af ++ x)).length = recL af x := recW_len af x
  repeat (first | (refine RunH ?_; intro w hL hB; try clear w) | (refine Both.mk ?_ ?_ <;> conv => whnf) | fail)
  refine V.tree ttOk (fun x => Blk x m [.pointer (some ⟨k, 0, none⟩), .string pre, .slice sa sg.length sc, .int .i64 (af : Int), dv] 128) (.q 0 (.q 1 (.q 2 (.q 3 (.q 4 (.q 5 (.q 6 (.q 7 (.q 8 (.q 10 (.q 11 (.q 12 (.q 13 (.q 14 (.alt 9 (.alt 15 (.alt 16 (.q 17 .nil) .stop) .stop) .stop))))))))))))))) mixed (by decide +kernel) (hL.drew.hold _ (.head _)) ?_
  replace hL := hL.drew
  conv => whnf
  repeat' (first | (refine RunH ?_; intro w hL hB; try clear w) | (refine Br.dec (fun hbr => ?_) (fun hbr => ?_) <;> conv => whnf) | (refine Br.mk (fun hbr => ?_) (fun hbr => ?_) <;> conv => whnf) | (refine Both.mk ?_ ?_ <;> conv => whnf) | (refine Lq.of_class (fun x hx => Ld.blk ttOk rfl rfl hx rfl rfl) ?_; conv => whnf) | fail)
  refine (nameW_fn pre (by omega) (takesW G af) htk _).mono fun r w ⟨hr, hw⟩ => ?_
  subst hr
  replace hL := hL.call hB (Turns.of_below hw)
  replace hB := Nat.le_trans hB hw.size
  refine And.intro (hL.hold _ (.head _)) ?_
  conv => whnf
  repeat (first | (refine RunH ?_; intro w hL hB; try clear w) | (refine Both.mk ?_ ?_ <;> conv => whnf) | fail)
  refine (recordR_fn af (by omega) _ x (by rw [recL]; have := encU_len af; omega) _ (hv _ (hL.sub (.cons _ (.cons _ (.cons _ ((List.sublist_append_right _ _).trans (List.sublist_append_left _ _)))))))).mono fun r w ⟨ho, hw⟩ => ?_
  replace hL := hL.addRow hB hw ho
  replace hB := Nat.le_trans hB hw.size
  clear ho hw
  obtain ⟨ra, rc, rfl⟩ := (show SlN w 1 r (recL af x) _ from hL.rowN (i := 0) rfl).shape
  refine And.intro (hL.hold _ (.tail _ (.head _))) ?_
  conv => whnf
  repeat (first | (refine RunH ?_; intro w hL hB; try clear w) | (refine Both.mk ?_ ?_ <;> conv => whnf) | fail)
  obtain ⟨F1, hF1⟩ : ∃ F1, F1 = sg.flatMap Rg.res ++ F := ⟨_, rfl⟩
  replace hL : Sep Tryz.prog B w0 w ((.row 5 1 (.slice ra (recL af x) rc) (recL af x) (bv (encF (encU af ++ x))) :: .blk m [.pointer (some ⟨k, 0, none⟩), .string pre, .slice sa sg.length sc, .int .i64 (af : Int), dv] 128 ::
      .row 133 2 (.slice sa sg.length sc) sg.length (sg.flatMap Rg.cells) :: .row 3 1 dv D.length (D.map iN) :: F1) ++ dL) := by rw [hF1]; exact hL
  have hnmz := wnm_size (pre := pre) htk
  refine (appendR_fn (wnm pre (takesW G af)) (by omega) (.slice ra (recL af x) rc) (encF (encU af ++ x)) (by rw [hrl, recL]; have := encU_len af; omega) (fun w' h => h.row (i := 0) rfl) (close hL hB)).mono fun r w ⟨hr, R', hR', hD⟩ => ?_
  rw [hrl] at hr
  subst hr
  clear hL hB close
  obtain ⟨dL, hL, hB, close⟩ := hD.open
  clear hD
  replace hL := hL.tl
  refine And.intro (hL.hold _ (.head _)) ?_
  by_cases hE : appE room R (wnm pre (takesW G af)) (recL af x) ≠ 0
  · have hE2 : ¬ ((appE room R (wnm pre (takesW G af)) (recL af x) : Nat) : Int) = 0 := by omega
    rw [if_neg hE, if_neg hE, if_neg hE, if_neg hE]
    conv => whnf
    repeat (first | (refine RunH ?_; intro w hL hB; try clear w) | (refine Both.mk ?_ ?_ <;> conv => whnf) | fail)
    refine ⟨R', hR', rfl, ⟨_, sg, dv, hP, close (F' := rlR m k pre (.slice sa sg.length sc) sg af dv D ++ F) ?_ hB⟩⟩
    rw [hF1] at hL
    exact hL
  replace hE : appE room R (wnm pre (takesW G af)) (recL af x) = 0 := by omega
  rw [if_pos hE, if_pos hE, if_pos hE, if_pos hE, hE]
  conv => whnf
  repeat (first | (refine RunH ?_; intro w hL hB; try clear w) | (refine Both.mk ?_ ?_ <;> conv => whnf) | fail)
  replace hL : Sep Tryz.prog B w0 w (.blk m [.pointer (some ⟨k, 0, none⟩), .string pre, .slice sa sg.length sc, .int .i64 (af : Int), dv] 128 ::
      .row 133 2 (.slice sa sg.length sc) sg.length (sg.flatMap Rg.cells) :: .row 3 1 dv D.length (D.map iN) :: (F1 ++ dL)) := hL
  rw [hF1, List.append_assoc] at hL
  refine Br.meet (α := List Rg × Rg × Option Addr × Nat) (fun z => [(0, .pointer (some ⟨m, 0, none⟩)), (1, .slice va x.length vc), (7, .int .i64 (takesW G af : Int))])
    (fun z w' => z.2.1.first = takesW G af ∧ (∀ (e : En) (lv : Value), e.d = x → (z.1 ++ [(⟨z.2.1.first, lv, z.2.1.es ++ [e]⟩ : Rg)]).map Rg.fe = (apG G af x).map Wg.fe) ∧ z.1.length ≤ 1000000 ∧ z.2.1.es.length ≤ 1073741824 ∧ B ≤ w'.heap.size ∧
      Sep Tryz.prog B w0 w' (.blk m [.pointer (some ⟨k, 0, none⟩), .string pre, .slice z.2.2.1 (z.1.length + 1) z.2.2.2, .int .i64 (af : Int), dv] 128 :: .row 133 2 (.slice z.2.2.1 (z.1.length + 1) z.2.2.2) (z.1.length + 1) ((z.1 ++ [z.2.1]).flatMap Rg.cells) ::
        .row 3 1 dv D.length (D.map iN) :: ((z.1 ++ [z.2.1]).flatMap Rg.res ++ (F ++ dL)))) (fun hf => ?_) (fun hf => ?_) ?_
  · subst hf
    repeat (first | (refine RunH ?_; intro w hL hB; try clear w) | (refine Both.mk ?_ ?_ <;> conv => whnf) | fail)
    refine Rv.buildS (len := 1) ttOk hL tl126 tl133 rfl rfl (by intro u hu; simp only [List.mem_singleton] at hu; subst hu; rfl) (by decide) (by decide) hB fun bo w hL hB => ?_
    replace hL : Sep Tryz.prog B w0 w (.row 133 2 (.slice (some ⟨bo, 0, none⟩) 1 1) 1 [.int .i64 (takesW G af : Int), .slice none 0 0] :: _) := hL
    conv => whnf
    repeat (first | (refine RunH ?_; intro w hL hB; try clear w) | (refine Both.mk ?_ ?_ <;> conv => whnf) | fail)
    refine Rv.appendS (m := 1) ttOk hL tl126 tl133 rfl (by decide) 2 rfl (hL.rowN (i := 0) rfl) (by intro u hu; simp only [List.mem_cons, List.not_mem_nil, or_false] at hu; rcases hu with rfl | rfl <;> rfl) (by simp only [maxLen]; omega) (by omega) hB fun v1 w hL hB => ?_
    dsimp only [List.set] at hL
    replace hL := hL.tl
    obtain ⟨a1, c1, rfl⟩ := (show SlN w 2 v1 (sg.length + 1) _ from hL.rowN (i := 1) rfl).shape
    conv => whnf
    repeat (first | (refine RunH ?_; intro w hL hB; try clear w) | (refine Both.mk ?_ ?_ <;> conv => whnf) | fail)
    refine ⟨(sg, ⟨af, .slice none 0 0, []⟩, a1, c1), ⟨rfl, rfl, by rw [hat rfl]; rfl, trivial⟩, (hat rfl).symm, fun e lv he => ?_, by dsimp only; omega, by simp, hB, ?_⟩
    · rw [apG, if_pos hfr.symm, List.map_append, List.map_append, hP]
      simp [Rg.fe, Wg.fe, he]
    · rw [hat rfl] at hL
      rw [List.flatMap_append, List.flatMap_append, List.append_assoc]
      have hN := ((hL.nilC 23).says (R' := .ro (.slice none 0 0) []) ⟨Sl.nil _, fun b hb => by cases hb⟩ rfl).perm (entry_in2 _ _ _ _ _ _)
      rw [List.append_assoc] at hN
      exact hN
  · subst hf
    obtain ⟨A, s, C, g, rfl, rfl, hAC, hsf, hse, htk2⟩ := hal rfl
    have hgs := hfs g (by simp)
    have hl9 := lenW_ge g.first g.es
    have hse2 : s.es.length = g.es.length := by rw [← hse, List.length_map]
    have hgz : g.size = lenW g.first g.es := rfl
    repeat (first | (refine RunH ?_; intro w hL hB; try clear w) | (refine Both.mk ?_ ?_ <;> conv => whnf) | fail)
    refine ⟨(A, s, sa, sc), ⟨rfl, rfl, rfl, trivial⟩, htk2.symm, fun e lv he => ?_, ?_, by dsimp only; omega, hB, ?_⟩
    · rw [apG, if_neg (by rw [← hfr]; simp), putW_snoc, List.map_append, List.map_append, hAC]
      simp [Rg.fe, Wg.fe, hsf, hse, he]
    · dsimp only
      have := congrArg List.length hAC
      simp at this hlen
      omega
    · dsimp only
      rw [show (A ++ [s]).length = A.length + 1 by simp] at hL
      exact hL
  clear hL hB
  rintro ⟨A, s, za, zc⟩ w ⟨hsf, hap, hAl, hel, hB, hL⟩
  dsimp only at hsf hap hAl hel hL
  have hvX : ∀ {w' : World} {R1 : List Res}, Sep Tryz.prog B w0 w' (R1 ++ ((A ++ [s]).flatMap Rg.res ++ (F ++ dL))) → Sl w' (.slice va x.length vc) (bv x) := fun h => hv _ (h.sub (((List.sublist_append_left F dL).trans (List.sublist_append_right _ _)).trans (List.sublist_append_right _ _)))
  have hlX : ∀ {w' : World} {R1 : List Res}, Sep Tryz.prog B w0 w' (R1 ++ ((A ++ [s]).flatMap Rg.res ++ (F ++ dL))) → Sl w' s.lv (s.es.map En.v) := fun h => (h.hold (.ro s.lv (s.es.map En.v)) (List.mem_append_right _ (List.mem_append_left _ (List.mem_flatMap.2 ⟨s, by simp, List.mem_cons_self ..⟩)))).1
  obtain ⟨X, hX⟩ : ∃ X, X = (A ++ [s]).flatMap Rg.res ++ (F ++ dL) := ⟨_, rfl⟩
  have hlv := hlX (R1 := [_, _, _]) hL
  obtain ⟨lva, lvc, hlvs⟩ := hlv.shape
  rw [List.length_map] at hlvs
  clear hlv
  rw [← hX] at hL hvX hlX
  rw [hlvs] at hlX
  have ones : ∀ u ∈ s.es.map En.v, u.oneCell' = true := fun u hu => by
    obtain ⟨e, he, rfl⟩ := List.mem_map.1 hu
    have h1 : En.res e ∈ X := by
      rw [hX]
      exact List.mem_append_left _ (List.mem_flatMap.2 ⟨s, by simp, List.mem_cons_of_mem _ (List.mem_map.2 ⟨e, he, rfl⟩)⟩)
    obtain ⟨ea, ec, hev⟩ := (show Sl w e.v (bv e.d) from (hL.hold (En.res e) (List.mem_cons_of_mem _ (List.mem_cons_of_mem _ (List.mem_cons_of_mem _ h1)))).1).shape
    rw [hev]; rfl
  obtain ⟨zg, zcap, hzg, _⟩ := own_shape0 (hL.ownR (i := 1) rfl) (by omega)
  injection hzg with hz1 hz2 hz3
  subst hz1; subst hz3
  have hgl : (A ++ [s])[A.length]? = some s := by simp
  repeat (first | (refine Br.go ?_; first | ((first | refine Br.tt ?_ | refine Br.ff ?_ | refine Br.y ?_ | refine Br.n ?_ | refine Br.t ?_ | refine Br.f ?_ | fail); conv => whnf) | refine Br.not ?_ | fail) | (refine Ld.go ?_; first | ((first | refine Ld.x ttOk hL ?_ | refine Ld.p ttOk hL ?_ | fail); conv => whnf) | fail) | (refine St.x ttOk hL hB (fun w hL hB => ?_); dsimp only [List.set, splice, overL, cellsL, takeL, dropL, List.drop, List.take, rkRes, List.append_nil, List.nil_append, List.cons_append] at hL; conv => whnf) | (refine Lq.go ?_; first | ((first | refine Lq.x ttOk hL.cls ?_ | refine Lq.x ttOk (fun _ h => h) ?_ | refine Lq.p ttOk hL.cls ?_ | refine Lq.p ttOk (fun _ h => h) ?_ | fail); conv => whnf) | fail) | (refine Ar.go ?_; first | ((first | refine Ar.s ?_ | refine Ar.u ?_ | refine Ar.h ?_ | refine Ar.b ?_ | fail); conv => whnf) | fail) | ((first | refine Chk.m ?_ | refine Qv.str ttOk rfl rfl rfl ?_ | refine An.x hL ?_ | fail); conv => whnf) | (refine Both.mk ?_ ?_ <;> conv => whnf) | fail)
  refine V.seq ?_
  refine V.join (α := Unit) (fun _ => [(0, .pointer (some ⟨m, 0, none⟩)), (1, .slice va x.length vc), (7, .int .i64 (takesW G af : Int)), (9, .int .i64 (A.length : Int))]) (fun _ w' => w' = w) (by
    repeat (first | (refine RunH ?_; intro w hL hB; try clear w) | (refine Both.mk ?_ ?_ <;> conv => whnf) | fail)
    exact ⟨(), ⟨rfl, rfl, rfl, vint (by push_cast; omega), trivial⟩, rfl⟩) ?_
  rintro _ w' hw
  replace hw := hw.symm
  subst hw
  repeat (first | (refine Br.go ?_; first | ((first | refine Br.tt ?_ | refine Br.ff ?_ | refine Br.y ?_ | refine Br.n ?_ | refine Br.t ?_ | refine Br.f ?_ | fail); conv => whnf) | refine Br.not ?_ | fail) | (refine Ld.go ?_; first | ((first | refine Ld.x ttOk hL ?_ | refine Ld.p ttOk hL ?_ | fail); conv => whnf) | fail) | (refine St.x ttOk hL hB (fun w hL hB => ?_); dsimp only [List.set, splice, overL, cellsL, takeL, dropL, List.drop, List.take, rkRes, List.append_nil, List.nil_append, List.cons_append] at hL; conv => whnf) | (refine Lq.go ?_; first | ((first | refine Lq.x ttOk hL.cls ?_ | refine Lq.x ttOk (fun _ h => h) ?_ | refine Lq.p ttOk hL.cls ?_ | refine Lq.p ttOk (fun _ h => h) ?_ | fail); conv => whnf) | fail) | (refine Ar.go ?_; first | ((first | refine Ar.s ?_ | refine Ar.u ?_ | refine Ar.h ?_ | refine Ar.b ?_ | fail); conv => whnf) | fail) | ((first | refine Chk.m ?_ | refine Qv.str ttOk rfl rfl rfl ?_ | refine An.x hL ?_ | fail); conv => whnf) | (refine Both.mk ?_ ?_ <;> conv => whnf) | fail)
  refine V.seq ?_
  refine V.join (α := Value × Value) (fun _ => [(0, .pointer (some ⟨m, 0, none⟩)), (7, .int .i64 (takesW G af : Int))])
    (fun z w' => B ≤ w'.heap.size ∧ Sep Tryz.prog B w0 w' (.blk m [.pointer (some ⟨k, 0, none⟩), .string pre, .slice (some ⟨zg, 0, none⟩) (A.length + 1) zc, .int .i64 (af : Int), dv] 128 ::
      .row 133 2 (.slice (some ⟨zg, 0, none⟩) (A.length + 1) zc) (A.length + 1) ((A ++ [(⟨s.first, z.1, s.es ++ [⟨z.2, x⟩]⟩ : Rg)]).flatMap Rg.cells) :: .row 3 1 dv D.length (D.map iN) :: ((A ++ [(⟨s.first, z.1, s.es ++ [⟨z.2, x⟩]⟩ : Rg)]).flatMap Rg.res ++ (F ++ dL)))) ?_ ?_
  · have fin : ∀ {w : World} {a7 a9 : Option Addr} {c7 c9 : Nat}, B ≤ w.heap.size → Sep Tryz.prog B w0 w (.row 23 1 (.slice a7 (s.es.length + 1) c7) (s.es.length + 1) (s.es.map En.v ++ [.slice a9 x.length c9]) :: .row 5 1 (.slice a9 x.length c9) x.length (bv x) ::
        .blk m [.pointer (some ⟨k, 0, none⟩), .string pre, .slice (some ⟨zg, 0, none⟩) (A.length + 1) zc, .int .i64 (af : Int), dv] 128 :: .row 133 2 (.slice (some ⟨zg, 0, none⟩) (A.length + 1) zc) (A.length + 1) (((A ++ [s]).set A.length ⟨s.first, .slice a7 (s.es.length + 1) c7, []⟩).flatMap Rg.cells) ::
        .row 3 1 dv D.length (D.map iN) :: X) →
        B ≤ w.heap.size ∧ Sep Tryz.prog B w0 w (.blk m [.pointer (some ⟨k, 0, none⟩), .string pre, .slice (some ⟨zg, 0, none⟩) (A.length + 1) zc, .int .i64 (af : Int), dv] 128 ::
          .row 133 2 (.slice (some ⟨zg, 0, none⟩) (A.length + 1) zc) (A.length + 1) ((A ++ [(⟨s.first, .slice a7 (s.es.length + 1) c7, s.es ++ [⟨.slice a9 x.length c9, x⟩]⟩ : Rg)]).flatMap Rg.cells) :: .row 3 1 dv D.length (D.map iN) :: ((A ++ [(⟨s.first, .slice a7 (s.es.length + 1) c7, s.es ++ [⟨.slice a9 x.length c9, x⟩]⟩ : Rg)]).flatMap Rg.res ++ (F ++ dL))) := by
      intro w a7 a9 c7 c9 hB hL
      refine ⟨hB, ?_⟩
      have h1 := (hL.rowRo.perm (List.Perm.swap _ _ _)).rowRo.perm (List.Perm.swap _ _ _)
      rw [hX] at h1
      have e1 : (A ++ [s]).flatMap Rg.res ++ (F ++ dL) = A.flatMap Rg.res ++ (.ro s.lv (s.es.map En.v) :: (s.es.map En.res ++ (F ++ dL))) := by simp [Rg.res]
      rw [e1] at h1
      have h2 := h1.sub (.cons_cons _ (.cons_cons _ (.cons_cons _ (.cons_cons _ (.cons_cons _ ((List.Sublist.refl _).append (List.sublist_cons_self _ _))))))) 
      have h3 := h2.perm (perm_lay _ _ _ _ _ _ _ _)
      have e2 : (A ++ [s]).set A.length ⟨s.first, .slice a7 (s.es.length + 1) c7, []⟩ = A ++ [⟨s.first, .slice a7 (s.es.length + 1) c7, []⟩] := by simp
      have e3 : (A ++ [(⟨s.first, .slice a7 (s.es.length + 1) c7, []⟩ : Rg)]).flatMap Rg.cells = (A ++ [(⟨s.first, .slice a7 (s.es.length + 1) c7, s.es ++ [⟨.slice a9 x.length c9, x⟩]⟩ : Rg)]).flatMap Rg.cells := by
        rw [List.flatMap_append, List.flatMap_append]; rfl
      have e4 : (A ++ [(⟨s.first, .slice a7 (s.es.length + 1) c7, s.es ++ [⟨.slice a9 x.length c9, x⟩]⟩ : Rg)]).flatMap Rg.res = A.flatMap Rg.res ++ (.ro (.slice a7 (s.es.length + 1) c7) (s.es.map En.v ++ [.slice a9 x.length c9]) :: (s.es.map En.res ++ [.ro (.slice a9 x.length c9) (bv x)])) := by
        rw [List.flatMap_append]; simp [Rg.res, En.res]
      rw [e2, e3] at h3
      rw [e4]
      exact h3
    refine V.tree ttOk (fun x => Blk x m [.pointer (some ⟨k, 0, none⟩), .string pre, .slice (some ⟨zg, 0, none⟩) (A.length + 1) zc, .int .i64 (af : Int), dv] 128) (.q 0 (.q 1 (.q 2 (.q 3 (.q 4 (.q 6 (.q 7 (.q 8 (.q 9 (.q 10 (.q 11 (.q 12 (.q 16 (.alt 5 (.alt 13 (.alt 14 (.alt 15 (.alt 17 (.alt 18 (.alt 19 (.q 20 (.q 21 (.alt 22 .nil .stop))) .stop) .stop) .stop) .stop) (.alt 15 (.alt 14 (.alt 17 (.alt 18 (.alt 19 (.q 20 (.q 21 (.alt 22 .nil .stop))) .stop) .stop) .stop) .stop) .stop)) (.alt 15 (.alt 13 (.alt 14 (.alt 17 (.alt 18 (.alt 19 (.q 20 (.q 21 (.alt 22 .nil .stop))) .stop) .stop) .stop) .stop) .stop) .stop)) (.alt 13 (.alt 5 (.alt 14 (.alt 15 (.alt 17 (.alt 18 (.alt 19 (.q 20 (.q 21 (.alt 22 .nil .stop))) .stop) .stop) .stop) .stop) (.alt 15 (.alt 14 (.alt 17 (.alt 18 (.alt 19 (.q 20 (.q 21 (.alt 22 .nil .stop))) .stop) .stop) .stop) .stop) .stop)) (.alt 15 (.alt 5 (.alt 14 (.alt 17 (.alt 18 (.alt 19 (.q 20 (.q 21 (.alt 22 .nil .stop))) .stop) .stop) .stop) .stop) .stop) .stop)) (.alt 15 (.alt 5 (.alt 13 (.alt 14 (.alt 17 (.alt 18 (.alt 19 (.q 20 (.q 21 (.alt 22 .nil .stop))) .stop) .stop) .stop) .stop) .stop) (.alt 13 (.alt 5 (.alt 14 (.alt 17 (.alt 18 (.alt 19 (.q 20 (.q 21 (.alt 22 .nil .stop))) .stop) .stop) .stop) .stop) .stop) .stop)) .stop)))))))))))))))) mixed (by decide +kernel) (hL.drew.hold _ (.head _)) ?_
    replace hL := hL.drew
    conv => whnf
    repeat' (first | (refine RunH ?_; intro w hL hB; try clear w) | (refine Br.dec (fun hbr => ?_) (fun hbr => ?_) <;> conv => whnf) | (refine Br.mk (fun hbr => ?_) (fun hbr => ?_) <;> conv => whnf) | (refine Both.mk ?_ ?_ <;> conv => whnf) | (refine Lq.of_class (fun x hx => Ld.blk ttOk rfl rfl hx rfl rfl) ?_; conv => whnf) | fail)
    -- orders begin
    repeat (first | (refine RunH ?_; intro w hL hB; try clear w) | (refine Both.mk ?_ ?_ <;> conv => whnf) | fail)
    intro o1 ho1
    conv => whnf
    repeat (first | (refine RunH ?_; intro w hL hB; try clear w) | (refine Both.mk ?_ ?_ <;> conv => whnf) | fail)
    refine Rv.buildS (len := 0) (vs := []) ttOk hL tl22 tl23 rfl rfl (by intro u hu; cases hu) (by decide) (by decide) hB fun bo w hL hB => ?_
    refine And.intro (hL.blk (i := 1) rfl) ?_
    conv => whnf
    repeat (first | (refine RunH ?_; intro w hL hB; try clear w) | (refine Both.mk ?_ ?_ <;> conv => whnf) | fail)
    refine Ld.rowF ttOk Rg.cells_len 1 (hL.rowN (i := 2) rfl).rowOf rfl rfl hgl rfl (by omega) ?_
    rw [hlvs]
    refine And.intro (hL.blk (i := 1) rfl) ?_
    conv => whnf
    repeat (first | (refine RunH ?_; intro w hL hB; try clear w) | (refine Both.mk ?_ ?_ <;> conv => whnf) | fail)
    have h9 := (hlX (R1 := [_, _, _, _]) hL).toN
    rw [List.length_map] at h9
    refine Rv.appendS (m := s.es.length) ttOk hL tl22 tl23 rfl (by decide) 0 rfl h9 ones (by simp only [maxLen]; omega) (by omega) hB fun v8 w hL hB => ?_
    clear h9
    dsimp only [List.set] at hL
    simp only [List.flatMap_nil, List.nil_append, Nat.zero_add] at hL
    obtain ⟨a8, c8, rfl⟩ := (show SlN w 1 v8 s.es.length _ from hL.rowN (i := 0) rfl).shape
    refine And.intro (hL.blk (i := 1) rfl) ?_
    conv => whnf
    repeat (first | (refine RunH ?_; intro w hL hB; try clear w) | (refine Both.mk ?_ ?_ <;> conv => whnf) | fail)
    refine Rv.buildS (len := 0) (vs := []) ttOk hL tl23 tl5 rfl rfl (by intro u hu; cases hu) (by decide) (by decide) hB fun bo w hL hB => ?_
    refine And.intro (hL.blk (i := 2) rfl) ?_
    conv => whnf
    repeat (first | (refine RunH ?_; intro w hL hB; try clear w) | (refine Both.mk ?_ ?_ <;> conv => whnf) | fail)
    have h9 := (hvX (R1 := [_, _, _, _, _]) hL).toN
    rw [bv_length] at h9
    refine Rv.appendS (m := x.length) ttOk hL tl23 tl5 rfl (by decide) 0 rfl h9 (bv_one _) (by simp only [maxLen]; omega) (by omega) hB fun v9 w hL hB => ?_
    clear h9
    dsimp only [List.set] at hL
    simp only [List.flatMap_nil, List.nil_append, Nat.zero_add] at hL
    obtain ⟨a9, c9, rfl⟩ := (show SlN w 1 v9 x.length _ from hL.rowN (i := 0) rfl).shape
    refine And.intro (hL.blk (i := 2) rfl) ?_
    conv => whnf
    repeat (first | (refine RunH ?_; intro w hL hB; try clear w) | (refine Both.mk ?_ ?_ <;> conv => whnf) | fail)
    refine Rv.buildS (len := 1) ttOk hL tl22 tl23 rfl rfl (by intro u hu; simp only [List.mem_singleton] at hu; subst hu; rfl) (by decide) (by decide) hB fun bo w hL hB => ?_
    refine And.intro (hL.blk (i := 3) rfl) ?_
    conv => whnf
    repeat (first | (refine RunH ?_; intro w hL hB; try clear w) | (refine Both.mk ?_ ?_ <;> conv => whnf) | fail)
    refine Rv.appendS (m := 1) ttOk hL tl22 tl23 rfl (by decide) 2 rfl (hL.rowN (i := 0) rfl) (by intro u hu; rw [List.mem_singleton.1 hu]; rfl) (by simp only [maxLen]; omega) (by omega) hB fun v7 w hL hB => ?_
    dsimp only [List.set] at hL
    obtain ⟨a7, c7, rfl⟩ := (show SlN w 1 v7 (s.es.length + 1) _ from hL.rowN (i := 2) rfl).shape
    refine And.intro (hL.blk (i := 3) rfl) ?_
    conv => whnf
    repeat (first | (refine RunH ?_; intro w hL hB; try clear w) | (refine Both.mk ?_ ?_ <;> conv => whnf) | fail)
    intro o2 ho2
    conv => whnf
    repeat (first | (refine RunH ?_; intro w hL hB; try clear w) | (refine Both.mk ?_ ?_ <;> conv => whnf) | fail)
    refine St.rowM ttOk hL Rg.cells_len 4 A.length 1 (⟨s.first, .slice a7 (s.es.length + 1) c7, []⟩ : Rg) rfl rfl rfl rfl hgl (by decide) rfl (by omega) hB fun w hL hB => ?_
    dsimp only [List.set] at hL
    refine And.intro (hL.blk (i := 3) rfl) ?_
    conv => whnf
    repeat (first | (refine RunH ?_; intro w hL hB; try clear w) | (refine Both.mk ?_ ?_ <;> conv => whnf) | fail)
    exact ⟨(_, _), ⟨rfl, rfl, trivial⟩, fin hB (hL.tl.perm (List.Perm.swap _ _ _))⟩
    repeat (first | (refine RunH ?_; intro w hL hB; try clear w) | (refine Both.mk ?_ ?_ <;> conv => whnf) | fail)
    refine Rv.buildS (len := 0) (vs := []) ttOk hL tl23 tl5 rfl rfl (by intro u hu; cases hu) (by decide) (by decide) hB fun bo w hL hB => ?_
    refine And.intro (hL.blk (i := 2) rfl) ?_
    conv => whnf
    repeat (first | (refine RunH ?_; intro w hL hB; try clear w) | (refine Both.mk ?_ ?_ <;> conv => whnf) | fail)
    have h9 := (hlX (R1 := [_, _, _, _, _]) hL).toN
    rw [List.length_map] at h9
    refine Rv.appendS (m := s.es.length) ttOk hL tl22 tl23 rfl (by decide) 1 rfl h9 ones (by simp only [maxLen]; omega) (by omega) hB fun v8 w hL hB => ?_
    clear h9
    dsimp only [List.set] at hL
    simp only [List.flatMap_nil, List.nil_append, Nat.zero_add] at hL
    obtain ⟨a8, c8, rfl⟩ := (show SlN w 1 v8 s.es.length _ from hL.rowN (i := 1) rfl).shape
    refine And.intro (hL.blk (i := 2) rfl) ?_
    conv => whnf
    repeat (first | (refine RunH ?_; intro w hL hB; try clear w) | (refine Both.mk ?_ ?_ <;> conv => whnf) | fail)
    have h9 := (hvX (R1 := [_, _, _, _, _]) hL).toN
    rw [bv_length] at h9
    refine Rv.appendS (m := x.length) ttOk hL tl23 tl5 rfl (by decide) 0 rfl h9 (bv_one _) (by simp only [maxLen]; omega) (by omega) hB fun v9 w hL hB => ?_
    clear h9
    dsimp only [List.set] at hL
    simp only [List.flatMap_nil, List.nil_append, Nat.zero_add] at hL
    obtain ⟨a9, c9, rfl⟩ := (show SlN w 1 v9 x.length _ from hL.rowN (i := 0) rfl).shape
    refine And.intro (hL.blk (i := 2) rfl) ?_
    conv => whnf
    repeat (first | (refine RunH ?_; intro w hL hB; try clear w) | (refine Both.mk ?_ ?_ <;> conv => whnf) | fail)
    refine Rv.buildS (len := 1) ttOk hL tl22 tl23 rfl rfl (by intro u hu; simp only [List.mem_singleton] at hu; subst hu; rfl) (by decide) (by decide) hB fun bo w hL hB => ?_
    refine And.intro (hL.blk (i := 3) rfl) ?_
    conv => whnf
    repeat (first | (refine RunH ?_; intro w hL hB; try clear w) | (refine Both.mk ?_ ?_ <;> conv => whnf) | fail)
    refine Rv.appendS (m := 1) ttOk hL tl22 tl23 rfl (by decide) 2 rfl (hL.rowN (i := 0) rfl) (by intro u hu; rw [List.mem_singleton.1 hu]; rfl) (by simp only [maxLen]; omega) (by omega) hB fun v7 w hL hB => ?_
    dsimp only [List.set] at hL
    obtain ⟨a7, c7, rfl⟩ := (show SlN w 1 v7 (s.es.length + 1) _ from hL.rowN (i := 2) rfl).shape
    refine And.intro (hL.blk (i := 3) rfl) ?_
    conv => whnf
    repeat (first | (refine RunH ?_; intro w hL hB; try clear w) | (refine Both.mk ?_ ?_ <;> conv => whnf) | fail)
    intro o2 ho2
    conv => whnf
    repeat (first | (refine RunH ?_; intro w hL hB; try clear w) | (refine Both.mk ?_ ?_ <;> conv => whnf) | fail)
    refine St.rowM ttOk hL Rg.cells_len 4 A.length 1 (⟨s.first, .slice a7 (s.es.length + 1) c7, []⟩ : Rg) rfl rfl rfl rfl hgl (by decide) rfl (by omega) hB fun w hL hB => ?_
    dsimp only [List.set] at hL
    refine And.intro (hL.blk (i := 3) rfl) ?_
    conv => whnf
    repeat (first | (refine RunH ?_; intro w hL hB; try clear w) | (refine Both.mk ?_ ?_ <;> conv => whnf) | fail)
    exact ⟨(_, _), ⟨rfl, rfl, trivial⟩, fin hB (hL.tl.perm (List.Perm.swap _ _ _))⟩
    repeat (first | (refine RunH ?_; intro w hL hB; try clear w) | (refine Both.mk ?_ ?_ <;> conv => whnf) | fail)
    refine Rv.buildS (len := 0) (vs := []) ttOk hL tl23 tl5 rfl rfl (by intro u hu; cases hu) (by decide) (by decide) hB fun bo w hL hB => ?_
    refine And.intro (hL.blk (i := 2) rfl) ?_
    conv => whnf
    repeat (first | (refine RunH ?_; intro w hL hB; try clear w) | (refine Both.mk ?_ ?_ <;> conv => whnf) | fail)
    refine Ld.rowF ttOk Rg.cells_len 1 (hL.rowN (i := 3) rfl).rowOf rfl rfl hgl rfl (by omega) ?_
    rw [hlvs]
    refine And.intro (hL.blk (i := 2) rfl) ?_
    conv => whnf
    repeat (first | (refine RunH ?_; intro w hL hB; try clear w) | (refine Both.mk ?_ ?_ <;> conv => whnf) | fail)
    have h9 := (hlX (R1 := [_, _, _, _, _]) hL).toN
    rw [List.length_map] at h9
    refine Rv.appendS (m := s.es.length) ttOk hL tl22 tl23 rfl (by decide) 1 rfl h9 ones (by simp only [maxLen]; omega) (by omega) hB fun v8 w hL hB => ?_
    clear h9
    dsimp only [List.set] at hL
    simp only [List.flatMap_nil, List.nil_append, Nat.zero_add] at hL
    obtain ⟨a8, c8, rfl⟩ := (show SlN w 1 v8 s.es.length _ from hL.rowN (i := 1) rfl).shape
    refine And.intro (hL.blk (i := 2) rfl) ?_
    conv => whnf
    repeat (first | (refine RunH ?_; intro w hL hB; try clear w) | (refine Both.mk ?_ ?_ <;> conv => whnf) | fail)
    have h9 := (hvX (R1 := [_, _, _, _, _]) hL).toN
    rw [bv_length] at h9
    refine Rv.appendS (m := x.length) ttOk hL tl23 tl5 rfl (by decide) 0 rfl h9 (bv_one _) (by simp only [maxLen]; omega) (by omega) hB fun v9 w hL hB => ?_
    clear h9
    dsimp only [List.set] at hL
    simp only [List.flatMap_nil, List.nil_append, Nat.zero_add] at hL
    obtain ⟨a9, c9, rfl⟩ := (show SlN w 1 v9 x.length _ from hL.rowN (i := 0) rfl).shape
    refine And.intro (hL.blk (i := 2) rfl) ?_
    conv => whnf
    repeat (first | (refine RunH ?_; intro w hL hB; try clear w) | (refine Both.mk ?_ ?_ <;> conv => whnf) | fail)
    refine Rv.buildS (len := 1) ttOk hL tl22 tl23 rfl rfl (by intro u hu; simp only [List.mem_singleton] at hu; subst hu; rfl) (by decide) (by decide) hB fun bo w hL hB => ?_
    refine And.intro (hL.blk (i := 3) rfl) ?_
    conv => whnf
    repeat (first | (refine RunH ?_; intro w hL hB; try clear w) | (refine Both.mk ?_ ?_ <;> conv => whnf) | fail)
    refine Rv.appendS (m := 1) ttOk hL tl22 tl23 rfl (by decide) 2 rfl (hL.rowN (i := 0) rfl) (by intro u hu; rw [List.mem_singleton.1 hu]; rfl) (by simp only [maxLen]; omega) (by omega) hB fun v7 w hL hB => ?_
    dsimp only [List.set] at hL
    obtain ⟨a7, c7, rfl⟩ := (show SlN w 1 v7 (s.es.length + 1) _ from hL.rowN (i := 2) rfl).shape
    refine And.intro (hL.blk (i := 3) rfl) ?_
    conv => whnf
    repeat (first | (refine RunH ?_; intro w hL hB; try clear w) | (refine Both.mk ?_ ?_ <;> conv => whnf) | fail)
    intro o2 ho2
    conv => whnf
    repeat (first | (refine RunH ?_; intro w hL hB; try clear w) | (refine Both.mk ?_ ?_ <;> conv => whnf) | fail)
    refine St.rowM ttOk hL Rg.cells_len 4 A.length 1 (⟨s.first, .slice a7 (s.es.length + 1) c7, []⟩ : Rg) rfl rfl rfl rfl hgl (by decide) rfl (by omega) hB fun w hL hB => ?_
    dsimp only [List.set] at hL
    refine And.intro (hL.blk (i := 3) rfl) ?_
    conv => whnf
    repeat (first | (refine RunH ?_; intro w hL hB; try clear w) | (refine Both.mk ?_ ?_ <;> conv => whnf) | fail)
    exact ⟨(_, _), ⟨rfl, rfl, trivial⟩, fin hB (hL.tl.perm (List.Perm.swap _ _ _))⟩
    repeat (first | (refine RunH ?_; intro w hL hB; try clear w) | (refine Both.mk ?_ ?_ <;> conv => whnf) | fail)
    refine Ld.rowF ttOk Rg.cells_len 1 (hL.rowN (i := 1) rfl).rowOf rfl rfl hgl rfl (by omega) ?_
    rw [hlvs]
    refine And.intro (hL.blk (i := 0) rfl) ?_
    conv => whnf
    repeat (first | (refine RunH ?_; intro w hL hB; try clear w) | (refine Both.mk ?_ ?_ <;> conv => whnf) | fail)
    refine Rv.buildS (len := 0) (vs := []) ttOk hL tl22 tl23 rfl rfl (by intro u hu; cases hu) (by decide) (by decide) hB fun bo w hL hB => ?_
    refine And.intro (hL.blk (i := 1) rfl) ?_
    conv => whnf
    repeat (first | (refine RunH ?_; intro w hL hB; try clear w) | (refine Both.mk ?_ ?_ <;> conv => whnf) | fail)
    have h9 := (hlX (R1 := [_, _, _, _]) hL).toN
    rw [List.length_map] at h9
    refine Rv.appendS (m := s.es.length) ttOk hL tl22 tl23 rfl (by decide) 0 rfl h9 ones (by simp only [maxLen]; omega) (by omega) hB fun v8 w hL hB => ?_
    clear h9
    dsimp only [List.set] at hL
    simp only [List.flatMap_nil, List.nil_append, Nat.zero_add] at hL
    obtain ⟨a8, c8, rfl⟩ := (show SlN w 1 v8 s.es.length _ from hL.rowN (i := 0) rfl).shape
    refine And.intro (hL.blk (i := 1) rfl) ?_
    conv => whnf
    repeat (first | (refine RunH ?_; intro w hL hB; try clear w) | (refine Both.mk ?_ ?_ <;> conv => whnf) | fail)
    refine Rv.buildS (len := 0) (vs := []) ttOk hL tl23 tl5 rfl rfl (by intro u hu; cases hu) (by decide) (by decide) hB fun bo w hL hB => ?_
    refine And.intro (hL.blk (i := 2) rfl) ?_
    conv => whnf
    repeat (first | (refine RunH ?_; intro w hL hB; try clear w) | (refine Both.mk ?_ ?_ <;> conv => whnf) | fail)
    have h9 := (hvX (R1 := [_, _, _, _, _]) hL).toN
    rw [bv_length] at h9
    refine Rv.appendS (m := x.length) ttOk hL tl23 tl5 rfl (by decide) 0 rfl h9 (bv_one _) (by simp only [maxLen]; omega) (by omega) hB fun v9 w hL hB => ?_
    clear h9
    dsimp only [List.set] at hL
    simp only [List.flatMap_nil, List.nil_append, Nat.zero_add] at hL
    obtain ⟨a9, c9, rfl⟩ := (show SlN w 1 v9 x.length _ from hL.rowN (i := 0) rfl).shape
    refine And.intro (hL.blk (i := 2) rfl) ?_
    conv => whnf
    repeat (first | (refine RunH ?_; intro w hL hB; try clear w) | (refine Both.mk ?_ ?_ <;> conv => whnf) | fail)
    refine Rv.buildS (len := 1) ttOk hL tl22 tl23 rfl rfl (by intro u hu; simp only [List.mem_singleton] at hu; subst hu; rfl) (by decide) (by decide) hB fun bo w hL hB => ?_
    refine And.intro (hL.blk (i := 3) rfl) ?_
    conv => whnf
    repeat (first | (refine RunH ?_; intro w hL hB; try clear w) | (refine Both.mk ?_ ?_ <;> conv => whnf) | fail)
    refine Rv.appendS (m := 1) ttOk hL tl22 tl23 rfl (by decide) 2 rfl (hL.rowN (i := 0) rfl) (by intro u hu; rw [List.mem_singleton.1 hu]; rfl) (by simp only [maxLen]; omega) (by omega) hB fun v7 w hL hB => ?_
    dsimp only [List.set] at hL
    obtain ⟨a7, c7, rfl⟩ := (show SlN w 1 v7 (s.es.length + 1) _ from hL.rowN (i := 2) rfl).shape
    refine And.intro (hL.blk (i := 3) rfl) ?_
    conv => whnf
    repeat (first | (refine RunH ?_; intro w hL hB; try clear w) | (refine Both.mk ?_ ?_ <;> conv => whnf) | fail)
    intro o2 ho2
    conv => whnf
    repeat (first | (refine RunH ?_; intro w hL hB; try clear w) | (refine Both.mk ?_ ?_ <;> conv => whnf) | fail)
    refine St.rowM ttOk hL Rg.cells_len 4 A.length 1 (⟨s.first, .slice a7 (s.es.length + 1) c7, []⟩ : Rg) rfl rfl rfl rfl hgl (by decide) rfl (by omega) hB fun w hL hB => ?_
    dsimp only [List.set] at hL
    refine And.intro (hL.blk (i := 3) rfl) ?_
    conv => whnf
    repeat (first | (refine RunH ?_; intro w hL hB; try clear w) | (refine Both.mk ?_ ?_ <;> conv => whnf) | fail)
    exact ⟨(_, _), ⟨rfl, rfl, trivial⟩, fin hB (hL.tl.perm (List.Perm.swap _ _ _))⟩
    repeat (first | (refine RunH ?_; intro w hL hB; try clear w) | (refine Both.mk ?_ ?_ <;> conv => whnf) | fail)
    refine Rv.buildS (len := 0) (vs := []) ttOk hL tl23 tl5 rfl rfl (by intro u hu; cases hu) (by decide) (by decide) hB fun bo w hL hB => ?_
    refine And.intro (hL.blk (i := 2) rfl) ?_
    conv => whnf
    repeat (first | (refine RunH ?_; intro w hL hB; try clear w) | (refine Both.mk ?_ ?_ <;> conv => whnf) | fail)
    have h9 := (hlX (R1 := [_, _, _, _, _]) hL).toN
    rw [List.length_map] at h9
    refine Rv.appendS (m := s.es.length) ttOk hL tl22 tl23 rfl (by decide) 1 rfl h9 ones (by simp only [maxLen]; omega) (by omega) hB fun v8 w hL hB => ?_
    clear h9
    dsimp only [List.set] at hL
    simp only [List.flatMap_nil, List.nil_append, Nat.zero_add] at hL
    obtain ⟨a8, c8, rfl⟩ := (show SlN w 1 v8 s.es.length _ from hL.rowN (i := 1) rfl).shape
    refine And.intro (hL.blk (i := 2) rfl) ?_
    conv => whnf
    repeat (first | (refine RunH ?_; intro w hL hB; try clear w) | (refine Both.mk ?_ ?_ <;> conv => whnf) | fail)
    have h9 := (hvX (R1 := [_, _, _, _, _]) hL).toN
    rw [bv_length] at h9
    refine Rv.appendS (m := x.length) ttOk hL tl23 tl5 rfl (by decide) 0 rfl h9 (bv_one _) (by simp only [maxLen]; omega) (by omega) hB fun v9 w hL hB => ?_
    clear h9
    dsimp only [List.set] at hL
    simp only [List.flatMap_nil, List.nil_append, Nat.zero_add] at hL
    obtain ⟨a9, c9, rfl⟩ := (show SlN w 1 v9 x.length _ from hL.rowN (i := 0) rfl).shape
    refine And.intro (hL.blk (i := 2) rfl) ?_
    conv => whnf
    repeat (first | (refine RunH ?_; intro w hL hB; try clear w) | (refine Both.mk ?_ ?_ <;> conv => whnf) | fail)
    refine Rv.buildS (len := 1) ttOk hL tl22 tl23 rfl rfl (by intro u hu; simp only [List.mem_singleton] at hu; subst hu; rfl) (by decide) (by decide) hB fun bo w hL hB => ?_
    refine And.intro (hL.blk (i := 3) rfl) ?_
    conv => whnf
    repeat (first | (refine RunH ?_; intro w hL hB; try clear w) | (refine Both.mk ?_ ?_ <;> conv => whnf) | fail)
    refine Rv.appendS (m := 1) ttOk hL tl22 tl23 rfl (by decide) 2 rfl (hL.rowN (i := 0) rfl) (by intro u hu; rw [List.mem_singleton.1 hu]; rfl) (by simp only [maxLen]; omega) (by omega) hB fun v7 w hL hB => ?_
    dsimp only [List.set] at hL
    obtain ⟨a7, c7, rfl⟩ := (show SlN w 1 v7 (s.es.length + 1) _ from hL.rowN (i := 2) rfl).shape
    refine And.intro (hL.blk (i := 3) rfl) ?_
    conv => whnf
    repeat (first | (refine RunH ?_; intro w hL hB; try clear w) | (refine Both.mk ?_ ?_ <;> conv => whnf) | fail)
    intro o2 ho2
    conv => whnf
    repeat (first | (refine RunH ?_; intro w hL hB; try clear w) | (refine Both.mk ?_ ?_ <;> conv => whnf) | fail)
    refine St.rowM ttOk hL Rg.cells_len 4 A.length 1 (⟨s.first, .slice a7 (s.es.length + 1) c7, []⟩ : Rg) rfl rfl rfl rfl hgl (by decide) rfl (by omega) hB fun w hL hB => ?_
    dsimp only [List.set] at hL
    refine And.intro (hL.blk (i := 3) rfl) ?_
    conv => whnf
    repeat (first | (refine RunH ?_; intro w hL hB; try clear w) | (refine Both.mk ?_ ?_ <;> conv => whnf) | fail)
    exact ⟨(_, _), ⟨rfl, rfl, trivial⟩, fin hB (hL.tl.perm (List.Perm.swap _ _ _))⟩
    repeat (first | (refine RunH ?_; intro w hL hB; try clear w) | (refine Both.mk ?_ ?_ <;> conv => whnf) | fail)
    refine Rv.buildS (len := 0) (vs := []) ttOk hL tl23 tl5 rfl rfl (by intro u hu; cases hu) (by decide) (by decide) hB fun bo w hL hB => ?_
    refine And.intro (hL.blk (i := 1) rfl) ?_
    conv => whnf
    repeat (first | (refine RunH ?_; intro w hL hB; try clear w) | (refine Both.mk ?_ ?_ <;> conv => whnf) | fail)
    refine Rv.buildS (len := 0) (vs := []) ttOk hL tl22 tl23 rfl rfl (by intro u hu; cases hu) (by decide) (by decide) hB fun bo w hL hB => ?_
    refine And.intro (hL.blk (i := 2) rfl) ?_
    conv => whnf
    repeat (first | (refine RunH ?_; intro w hL hB; try clear w) | (refine Both.mk ?_ ?_ <;> conv => whnf) | fail)
    have h9 := (hlX (R1 := [_, _, _, _, _]) hL).toN
    rw [List.length_map] at h9
    refine Rv.appendS (m := s.es.length) ttOk hL tl22 tl23 rfl (by decide) 0 rfl h9 ones (by simp only [maxLen]; omega) (by omega) hB fun v8 w hL hB => ?_
    clear h9
    dsimp only [List.set] at hL
    simp only [List.flatMap_nil, List.nil_append, Nat.zero_add] at hL
    obtain ⟨a8, c8, rfl⟩ := (show SlN w 1 v8 s.es.length _ from hL.rowN (i := 0) rfl).shape
    refine And.intro (hL.blk (i := 2) rfl) ?_
    conv => whnf
    repeat (first | (refine RunH ?_; intro w hL hB; try clear w) | (refine Both.mk ?_ ?_ <;> conv => whnf) | fail)
    have h9 := (hvX (R1 := [_, _, _, _, _]) hL).toN
    rw [bv_length] at h9
    refine Rv.appendS (m := x.length) ttOk hL tl23 tl5 rfl (by decide) 1 rfl h9 (bv_one _) (by simp only [maxLen]; omega) (by omega) hB fun v9 w hL hB => ?_
    clear h9
    dsimp only [List.set] at hL
    simp only [List.flatMap_nil, List.nil_append, Nat.zero_add] at hL
    obtain ⟨a9, c9, rfl⟩ := (show SlN w 1 v9 x.length _ from hL.rowN (i := 1) rfl).shape
    refine And.intro (hL.blk (i := 2) rfl) ?_
    conv => whnf
    repeat (first | (refine RunH ?_; intro w hL hB; try clear w) | (refine Both.mk ?_ ?_ <;> conv => whnf) | fail)
    refine Rv.buildS (len := 1) ttOk hL tl22 tl23 rfl rfl (by intro u hu; simp only [List.mem_singleton] at hu; subst hu; rfl) (by decide) (by decide) hB fun bo w hL hB => ?_
    refine And.intro (hL.blk (i := 3) rfl) ?_
    conv => whnf
    repeat (first | (refine RunH ?_; intro w hL hB; try clear w) | (refine Both.mk ?_ ?_ <;> conv => whnf) | fail)
    refine Rv.appendS (m := 1) ttOk hL tl22 tl23 rfl (by decide) 1 rfl (hL.rowN (i := 0) rfl) (by intro u hu; rw [List.mem_singleton.1 hu]; rfl) (by simp only [maxLen]; omega) (by omega) hB fun v7 w hL hB => ?_
    dsimp only [List.set] at hL
    obtain ⟨a7, c7, rfl⟩ := (show SlN w 1 v7 (s.es.length + 1) _ from hL.rowN (i := 1) rfl).shape
    refine And.intro (hL.blk (i := 3) rfl) ?_
    conv => whnf
    repeat (first | (refine RunH ?_; intro w hL hB; try clear w) | (refine Both.mk ?_ ?_ <;> conv => whnf) | fail)
    intro o2 ho2
    conv => whnf
    repeat (first | (refine RunH ?_; intro w hL hB; try clear w) | (refine Both.mk ?_ ?_ <;> conv => whnf) | fail)
    refine St.rowM ttOk hL Rg.cells_len 4 A.length 1 (⟨s.first, .slice a7 (s.es.length + 1) c7, []⟩ : Rg) rfl rfl rfl rfl hgl (by decide) rfl (by omega) hB fun w hL hB => ?_
    dsimp only [List.set] at hL
    refine And.intro (hL.blk (i := 3) rfl) ?_
    conv => whnf
    repeat (first | (refine RunH ?_; intro w hL hB; try clear w) | (refine Both.mk ?_ ?_ <;> conv => whnf) | fail)
    exact ⟨(_, _), ⟨rfl, rfl, trivial⟩, fin hB hL.tl⟩
    repeat (first | (refine RunH ?_; intro w hL hB; try clear w) | (refine Both.mk ?_ ?_ <;> conv => whnf) | fail)
    refine Rv.buildS (len := 0) (vs := []) ttOk hL tl23 tl5 rfl rfl (by intro u hu; cases hu) (by decide) (by decide) hB fun bo w hL hB => ?_
    refine And.intro (hL.blk (i := 1) rfl) ?_
    conv => whnf
    repeat (first | (refine RunH ?_; intro w hL hB; try clear w) | (refine Both.mk ?_ ?_ <;> conv => whnf) | fail)
    refine Rv.buildS (len := 0) (vs := []) ttOk hL tl22 tl23 rfl rfl (by intro u hu; cases hu) (by decide) (by decide) hB fun bo w hL hB => ?_
    refine And.intro (hL.blk (i := 2) rfl) ?_
    conv => whnf
    repeat (first | (refine RunH ?_; intro w hL hB; try clear w) | (refine Both.mk ?_ ?_ <;> conv => whnf) | fail)
    refine Ld.rowF ttOk Rg.cells_len 1 (hL.rowN (i := 3) rfl).rowOf rfl rfl hgl rfl (by omega) ?_
    rw [hlvs]
    refine And.intro (hL.blk (i := 2) rfl) ?_
    conv => whnf
    repeat (first | (refine RunH ?_; intro w hL hB; try clear w) | (refine Both.mk ?_ ?_ <;> conv => whnf) | fail)
    have h9 := (hlX (R1 := [_, _, _, _, _]) hL).toN
    rw [List.length_map] at h9
    refine Rv.appendS (m := s.es.length) ttOk hL tl22 tl23 rfl (by decide) 0 rfl h9 ones (by simp only [maxLen]; omega) (by omega) hB fun v8 w hL hB => ?_
    clear h9
    dsimp only [List.set] at hL
    simp only [List.flatMap_nil, List.nil_append, Nat.zero_add] at hL
    obtain ⟨a8, c8, rfl⟩ := (show SlN w 1 v8 s.es.length _ from hL.rowN (i := 0) rfl).shape
    refine And.intro (hL.blk (i := 2) rfl) ?_
    conv => whnf
    repeat (first | (refine RunH ?_; intro w hL hB; try clear w) | (refine Both.mk ?_ ?_ <;> conv => whnf) | fail)
    have h9 := (hvX (R1 := [_, _, _, _, _]) hL).toN
    rw [bv_length] at h9
    refine Rv.appendS (m := x.length) ttOk hL tl23 tl5 rfl (by decide) 1 rfl h9 (bv_one _) (by simp only [maxLen]; omega) (by omega) hB fun v9 w hL hB => ?_
    clear h9
    dsimp only [List.set] at hL
    simp only [List.flatMap_nil, List.nil_append, Nat.zero_add] at hL
    obtain ⟨a9, c9, rfl⟩ := (show SlN w 1 v9 x.length _ from hL.rowN (i := 1) rfl).shape
    refine And.intro (hL.blk (i := 2) rfl) ?_
    conv => whnf
    repeat (first | (refine RunH ?_; intro w hL hB; try clear w) | (refine Both.mk ?_ ?_ <;> conv => whnf) | fail)
    refine Rv.buildS (len := 1) ttOk hL tl22 tl23 rfl rfl (by intro u hu; simp only [List.mem_singleton] at hu; subst hu; rfl) (by decide) (by decide) hB fun bo w hL hB => ?_
    refine And.intro (hL.blk (i := 3) rfl) ?_
    conv => whnf
    repeat (first | (refine RunH ?_; intro w hL hB; try clear w) | (refine Both.mk ?_ ?_ <;> conv => whnf) | fail)
    refine Rv.appendS (m := 1) ttOk hL tl22 tl23 rfl (by decide) 1 rfl (hL.rowN (i := 0) rfl) (by intro u hu; rw [List.mem_singleton.1 hu]; rfl) (by simp only [maxLen]; omega) (by omega) hB fun v7 w hL hB => ?_
    dsimp only [List.set] at hL
    obtain ⟨a7, c7, rfl⟩ := (show SlN w 1 v7 (s.es.length + 1) _ from hL.rowN (i := 1) rfl).shape
    refine And.intro (hL.blk (i := 3) rfl) ?_
    conv => whnf
    repeat (first | (refine RunH ?_; intro w hL hB; try clear w) | (refine Both.mk ?_ ?_ <;> conv => whnf) | fail)
    intro o2 ho2
    conv => whnf
    repeat (first | (refine RunH ?_; intro w hL hB; try clear w) | (refine Both.mk ?_ ?_ <;> conv => whnf) | fail)
    refine St.rowM ttOk hL Rg.cells_len 4 A.length 1 (⟨s.first, .slice a7 (s.es.length + 1) c7, []⟩ : Rg) rfl rfl rfl rfl hgl (by decide) rfl (by omega) hB fun w hL hB => ?_
    dsimp only [List.set] at hL
    refine And.intro (hL.blk (i := 3) rfl) ?_
    conv => whnf
    repeat (first | (refine RunH ?_; intro w hL hB; try clear w) | (refine Both.mk ?_ ?_ <;> conv => whnf) | fail)
    exact ⟨(_, _), ⟨rfl, rfl, trivial⟩, fin hB hL.tl⟩
    repeat (first | (refine RunH ?_; intro w hL hB; try clear w) | (refine Both.mk ?_ ?_ <;> conv => whnf) | fail)
    refine Ld.rowF ttOk Rg.cells_len 1 (hL.rowN (i := 2) rfl).rowOf rfl rfl hgl rfl (by omega) ?_
    rw [hlvs]
    refine And.intro (hL.blk (i := 1) rfl) ?_
    conv => whnf
    repeat (first | (refine RunH ?_; intro w hL hB; try clear w) | (refine Both.mk ?_ ?_ <;> conv => whnf) | fail)
    refine Rv.buildS (len := 0) (vs := []) ttOk hL tl22 tl23 rfl rfl (by intro u hu; cases hu) (by decide) (by decide) hB fun bo w hL hB => ?_
    refine And.intro (hL.blk (i := 2) rfl) ?_
    conv => whnf
    repeat (first | (refine RunH ?_; intro w hL hB; try clear w) | (refine Both.mk ?_ ?_ <;> conv => whnf) | fail)
    have h9 := (hlX (R1 := [_, _, _, _, _]) hL).toN
    rw [List.length_map] at h9
    refine Rv.appendS (m := s.es.length) ttOk hL tl22 tl23 rfl (by decide) 0 rfl h9 ones (by simp only [maxLen]; omega) (by omega) hB fun v8 w hL hB => ?_
    clear h9
    dsimp only [List.set] at hL
    simp only [List.flatMap_nil, List.nil_append, Nat.zero_add] at hL
    obtain ⟨a8, c8, rfl⟩ := (show SlN w 1 v8 s.es.length _ from hL.rowN (i := 0) rfl).shape
    refine And.intro (hL.blk (i := 2) rfl) ?_
    conv => whnf
    repeat (first | (refine RunH ?_; intro w hL hB; try clear w) | (refine Both.mk ?_ ?_ <;> conv => whnf) | fail)
    have h9 := (hvX (R1 := [_, _, _, _, _]) hL).toN
    rw [bv_length] at h9
    refine Rv.appendS (m := x.length) ttOk hL tl23 tl5 rfl (by decide) 1 rfl h9 (bv_one _) (by simp only [maxLen]; omega) (by omega) hB fun v9 w hL hB => ?_
    clear h9
    dsimp only [List.set] at hL
    simp only [List.flatMap_nil, List.nil_append, Nat.zero_add] at hL
    obtain ⟨a9, c9, rfl⟩ := (show SlN w 1 v9 x.length _ from hL.rowN (i := 1) rfl).shape
    refine And.intro (hL.blk (i := 2) rfl) ?_
    conv => whnf
    repeat (first | (refine RunH ?_; intro w hL hB; try clear w) | (refine Both.mk ?_ ?_ <;> conv => whnf) | fail)
    refine Rv.buildS (len := 1) ttOk hL tl22 tl23 rfl rfl (by intro u hu; simp only [List.mem_singleton] at hu; subst hu; rfl) (by decide) (by decide) hB fun bo w hL hB => ?_
    refine And.intro (hL.blk (i := 3) rfl) ?_
    conv => whnf
    repeat (first | (refine RunH ?_; intro w hL hB; try clear w) | (refine Both.mk ?_ ?_ <;> conv => whnf) | fail)
    refine Rv.appendS (m := 1) ttOk hL tl22 tl23 rfl (by decide) 1 rfl (hL.rowN (i := 0) rfl) (by intro u hu; rw [List.mem_singleton.1 hu]; rfl) (by simp only [maxLen]; omega) (by omega) hB fun v7 w hL hB => ?_
    dsimp only [List.set] at hL
    obtain ⟨a7, c7, rfl⟩ := (show SlN w 1 v7 (s.es.length + 1) _ from hL.rowN (i := 1) rfl).shape
    refine And.intro (hL.blk (i := 3) rfl) ?_
    conv => whnf
    repeat (first | (refine RunH ?_; intro w hL hB; try clear w) | (refine Both.mk ?_ ?_ <;> conv => whnf) | fail)
    intro o2 ho2
    conv => whnf
    repeat (first | (refine RunH ?_; intro w hL hB; try clear w) | (refine Both.mk ?_ ?_ <;> conv => whnf) | fail)
    refine St.rowM ttOk hL Rg.cells_len 4 A.length 1 (⟨s.first, .slice a7 (s.es.length + 1) c7, []⟩ : Rg) rfl rfl rfl rfl hgl (by decide) rfl (by omega) hB fun w hL hB => ?_
    dsimp only [List.set] at hL
    refine And.intro (hL.blk (i := 3) rfl) ?_
    conv => whnf
    repeat (first | (refine RunH ?_; intro w hL hB; try clear w) | (refine Both.mk ?_ ?_ <;> conv => whnf) | fail)
    exact ⟨(_, _), ⟨rfl, rfl, trivial⟩, fin hB hL.tl⟩
    -- orders end
  · clear hL hB
    rintro ⟨lv, u⟩ w ⟨hB, hL⟩
    dsimp only at hL
    clear hvX hlX ones hX hgl
    repeat (first | (refine RunH ?_; intro w hL hB; try clear w) | (refine Both.mk ?_ ?_ <;> conv => whnf) | fail)
    refine Rv.buildS (len := 1) ttOk hL tl78 tl3 rfl rfl (by intro u hu; simp only [List.mem_singleton] at hu; subst hu; rfl) (by decide) (by decide) hB fun bo w hL hB => ?_
    replace hL : Sep Tryz.prog B w0 w (.row 3 1 (.slice (some ⟨bo, 0, none⟩) 1 1) 1 [.int .i64 (takesW G af : Int)] :: _) := hL
    conv => whnf
    repeat (first | (refine RunH ?_; intro w hL hB; try clear w) | (refine Both.mk ?_ ?_ <;> conv => whnf) | fail)
    refine Rv.appendS (m := 1) ttOk hL tl78 tl3 rfl (by decide) 3 rfl (hL.rowN (i := 0) rfl) (by intro u hu; rw [List.mem_singleton.1 hu]; rfl) (by simp only [maxLen]; omega) (by omega) hB fun v1 w hL hB => ?_
    dsimp only [List.set] at hL
    replace hL := hL.tl
    obtain ⟨a1, c1, rfl⟩ := (show SlN w 1 v1 (D.length + 1) _ from hL.rowN (i := 2) rfl).shape
    conv => whnf
    repeat (first | (refine RunH ?_; intro w hL hB; try clear w) | (refine Both.mk ?_ ?_ <;> conv => whnf) | fail)
    refine ⟨R', hR', ?_, ⟨_, A ++ [⟨s.first, lv, s.es ++ [⟨u, x⟩]⟩], _, hap ⟨u, x⟩ lv rfl, close (F' := rlR m k pre (.slice (some ⟨zg, 0, none⟩) (A.length + 1) zc) (A ++ [⟨s.first, lv, s.es ++ [⟨u, x⟩]⟩]) (af + 1) (.slice a1 (D.length + 1) c1) (D ++ [takesW G af]) ++ F) ?_ hB⟩⟩
    · congr 4; omega
    · rw [rlR, rlC, List.length_append, List.length_append, List.map_append]
      rw [← List.append_assoc] at hL
      exact hL
end Go.Proofs.YtjafamiaahabgaaGreatDoor
namespace Go.Proofs.YtjafamiaahabgaaGreatDoor
open Go.RowKit Go.Lib
set_option linter.unusedVariables false
set_option linter.unusedSimpArgs false
set_option maxRecDepth 100000

theorem pad_numL : ∀ (m : Nat) (D : List UInt8), D.length = m → D.all isDig = true → padW m (numL D) = D
  | 0, D, h, _ => by rw [List.eq_nil_of_length_eq_zero h]; rfl
  | m + 1, D, h, hd => by
    rcases List.eq_nil_or_concat D with rfl | ⟨A, c, rfl⟩
    · simp at h
    rw [List.concat_eq_append] at *
    rw [List.length_append] at h
    rw [List.all_append, Bool.and_eq_true] at hd
    have hc : 48 ≤ c.toNat ∧ c.toNat ≤ 57 := by simpa [isDig] using hd.2
    have ih := pad_numL m A (by simpa using h) hd.1
    rw [padW, numL_snoc, show (numL A * 10 + (c.toNat - 48)) / 10 = numL A by omega, ih, show (numL A * 10 + (c.toNat - 48)) % 10 = c.toNat - 48 by omega, show 48 + (c.toNat - 48) = c.toNat by omega]
    simp
/-- a number's name -/
theorem numG_nm {pre nm : ByteArray} {n : Nat} (h : numG pre nm = some n) : nm = wnm pre n := by
  have hn := numG_le h
  unfold numG at h
  split at h
  · rename_i hc
    obtain ⟨h1, h2, h3⟩ := hc
    injection h with h
    have hl : (nmB nm).length = nm.size := Array.length_toList
    have hpl : (nmB pre).length = pre.size := Array.length_toList
    obtain ⟨k1, k2⟩ := (hasP_iff (nm := nm) (pre := pre) (by omega)).1 h1
    have hdl : ((nmB nm).drop (pre.size + 1)).length = 8 := by rw [List.length_drop]; omega
    have hp := pad_numL 8 _ hdl h3
    rw [h] at hp
    have h4 := congrArg nmB k1
    rw [nmB_take] at h4
    apply nmB_inj
    rw [nmB_wnm, dig8_padW hn, hp, ← h4]
    have hlt : pre.size < (nmB nm).length := by omega
    have h5 : (nmB nm)[pre.size] = 46 := by
      rw [List.getElem?_eq_getElem hlt] at k2
      injection k2
    have e : (nmB nm).take pre.size ++ [46] = (nmB nm).take (pre.size + 1) := by
      rw [List.take_succ_eq_append_getElem hlt, h5]
    rw [e, List.take_append_drop]
  · cases h
theorem openStep_bad {pre nm : ByteArray} {n : Nat} {G : List Wg} {af : Nat} {S : List Fl} {good : Bool} (hn : numG pre nm = some n) (h : good = false ∨ n < 1 ∨ (G ≠ [] ∧ n ≠ af)) : openStep pre ⟨G, af, S, good⟩ nm = ⟨G, af, delS S nm, false⟩ := by
  rw [openStep, hn]
  dsimp only
  cases good with
  | false => rfl
  | true =>
    rw [if_pos rfl, readG, if_pos (by simpa using h), ← numG_nm hn]
theorem openStep_ok {pre nm : ByteArray} {n : Nat} {G : List Wg} {af : Nat} {S : List Fl} {good : Bool} {xs : List (List UInt8)} (hn : numG pre nm = some n) (h : ¬ (good = false ∨ n < 1 ∨ (G ≠ [] ∧ n ≠ af))) (hx : (rdW ((fileD S nm).length + 1) n (fileD S nm)).1 = xs) :
    openStep pre ⟨G, af, S, good⟩ nm = if lenW n xs = (fileD S nm).length then ⟨G ++ [⟨n, xs, true⟩], n + xs.length, S, true⟩ else if lenW n xs = 0 then ⟨G, af, delS S nm, false⟩ else ⟨G ++ [⟨n, xs, true⟩], n + xs.length, cutS S nm (lenW n xs : Int), false⟩ := by
  obtain rfl : good = true := by
    cases good with
    | true => rfl
    | false => exact absurd (.inl rfl) h
  rw [openStep, hn]
  dsimp only
  rw [if_pos rfl, readG, if_neg (fun h1 => h (.inr h1)), ← numG_nm hn]
  have hr := (rdW_len ((fileD S nm).length + 1) n (fileD S nm)).2
  dsimp only
  rw [hr, hx]
theorem RkS.bigK {B : Nat} {w0 w : World} {b room : Nat} {S : List Fl} {F : List Res} (h : RkS B w0 w b room S F) (nm : ByteArray) : (fileD S nm).length ≤ 1073741824 := by
  obtain ⟨L, fs, rfl, hok, _⟩ := h.of
  rw [fileD, getF_fl]
  cases hf : getF fs nm with
  | none => exact Nat.zero_le _
  | some f =>
    have := len_le hok.ok hf
    show f.d.length ≤ _
    omega
theorem Sep.rcRo {P : Program} {B : Nat} {w0 w : World} {e : TypeId} {v : Value} {n : Nat} {xs : List Value} {L : List Res} (h : Sep P B w0 w (.rc e v n xs :: L)) : Sep P B w0 w (.ro v xs :: L) :=
  h.says ⟨RowC.sl (show RowC w e v n xs from h.hold _ (.head _)), fun b hb => Res.lt (h.hold _ (.head _)) b (mem_rowB.2 hb)⟩ rfl
theorem perm_seg2 {α : Type} (r a b c d : α) (E Y Z : List α) : (r :: a :: b :: c :: d :: (E ++ (Y ++ Z))).Perm (a :: b :: c :: d :: ((Y ++ (r :: E)) ++ Z)) := by
  have h1 : (a :: b :: c :: d :: ((Y ++ (r :: E)) ++ Z)) = ([a, b, c, d] ++ Y) ++ r :: (E ++ Z) := by simp
  rw [h1]
  refine List.Perm.symm (List.perm_middle.trans (.cons _ ?_))
  have h2 := List.perm_append_comm_assoc Y E Z
  simpa using ((((h2.cons d).cons c).cons b).cons a)
set_option maxHeartbeats 16000000 in
theorem ropen_fn {B k room : Nat} {pre : ByteArray} {R : List Fl} {F : List Res} (hp : 1 ≤ pre.size ∧ pre.size ≤ 55) {w0 w : World} (hD : RkS B w0 w k room R F) :
    Fn Tryz.prog 46 #[.pointer (some ⟨k, 0, none⟩), .string pre] w fun r w' => ∃ m, r = .tuple #[.pointer (some ⟨m, 0, none⟩), .int .i64 0] ∧ RlS B w0 w' k m pre room (openG pre R).S ((openG pre R).G.map Wg.fe) (openG pre R).af ((openG pre R).G.map Wg.first) F := by
  have hsrt := hD.srt
  have hns := names_srt hsrt
  have hRl : R.length ≤ 256 := by
    obtain ⟨L, fs, rfl, hok, _⟩ := hD.of
    rw [List.length_map]; exact hok.ok.len
  have hRn : ∀ f ∈ R, f.nm.size ≤ 64 := by
    obtain ⟨L, fs, rfl, hok, _⟩ := hD.of
    intro f hf
    obtain ⟨q, hq, rfl⟩ := List.mem_map.1 hf
    exact (hok.ok.nm q hq).2
  have hop : openG pre R = (R.map (·.nm)).foldl (openStep pre) ⟨[], 1, R, true⟩ := by
    rw [openG, hns, List.map_map]
    congr 1
  obtain ⟨dL, hL, hB, close⟩ := hD.open
  clear hD
  have hpn : ¬ pre.size < 1 := by omega
  have hpn2 : ¬ 55 < pre.size := by omega
  refine Fn.mk Tryz.func46 rfl (by kernel_rfl) Tryz.ntmps46 rfl (by rw [Tryz.results46]) ?_
  repeat (first | (refine RunH ?_; intro w hL hB; try clear w) | (refine Both.mk ?_ ?_ <;> conv => whnf) | fail)
  (refine Nw.sep hL hB (fun m w hL hB hm => ?_); conv => whnf)
  repeat (first | (refine RunH ?_; intro w hL hB; try clear w) | (refine Both.mk ?_ ?_ <;> conv => whnf) | fail)
  replace hL : Sep Tryz.prog B w0 w (.blk m [.pointer (some ⟨k, 0, none⟩), .string pre, .slice none 0 0, .int .i64 1, .slice none 0 0] 128 :: F ++ dL) := hL
  refine (listR_fn (close (F' := .blk m [.pointer (some ⟨k, 0, none⟩), .string pre, .slice none 0 0, .int .i64 1, .slice none 0 0] 128 :: F) hL hB)).mono fun r w hD => ?_
  clear hL hB close
  obtain ⟨dL, hL, hB, close⟩ := hD.open
  clear hD
  obtain ⟨na, nc, rfl⟩ : ∃ a c, r = .slice a R.length c := (show SlN w 1 r R.length _ from hL.rowN (i := 0) rfl).shape
  obtain ⟨o, ho⟩ : ∃ o : Nat → Ost, o = fun i => ((R.map (·.nm)).take i).foldl (openStep pre) ⟨[], 1, R, true⟩ := ⟨_, rfl⟩
  have ho0 : o 0 = ⟨[], 1, R, true⟩ := by rw [ho]; simp
  have hoE : o R.length = openG pre R := by rw [ho, hop]; dsimp only; rw [List.take_of_length_le (by simp)]
  have hoS : ∀ i (h : i < R.length), o (i + 1) = openStep pre (o i) (R[i]).nm := fun i h => by
    rw [ho]; dsimp only
    rw [List.take_succ_eq_append_getElem (by simpa using h), List.foldl_append]
    simp
  rw [← hoE]
  clear ho hop hoE
  conv => whnf
  repeat (first | (refine RunH ?_; intro w hL hB; try clear w) | (refine Both.mk ?_ ?_ <;> conv => whnf) | fail)
  have hD1 := close (F' := .row 9 1 (.slice na R.length nc) R.length (R.map fun f => .string f.nm) :: (rlR m k pre (.slice none 0 0) [] 1 (.slice none 0 0) [] ++ F)) (by
    have h1 := (((hL.nilRow 3 1).nilRow 133 2)).perm (show List.Perm _ _ from
      (((List.Perm.swap _ _ _).cons _).trans (List.Perm.swap _ _ _)).trans ((((List.Perm.swap _ _ _).cons _).trans (List.Perm.swap _ _ _)).cons _ |>.trans (.refl _)))
    exact h1) hB
  clear hL hB close
  refine V.loop (α := Nat) (fun i => [(0, .pointer (some ⟨k, 0, none⟩)), (1, .string pre), (6, .pointer (some ⟨m, 0, none⟩)), (7, .slice na R.length nc), (8, .bool (!(o i).good)), (9, .int .i64 (i : Int))])
    (fun i w' => i ≤ R.length ∧ (o i).G.length ≤ i ∧ (o i).af ≤ 2000000000 ∧ ∃ sv sg dv, sg.map Rg.fe = (o i).G.map Wg.fe ∧ RkS B w0 w' k room (o i).S (.row 9 1 (.slice na R.length nc) R.length (R.map fun f => .string f.nm) :: (rlR m k pre sv sg (o i).af dv ((o i).G.map Wg.first) ++ F)))
    (fun i => R.length - i) 0 ⟨rfl, rfl, rfl, rfl, by rw [ho0]; rfl, rfl, trivial⟩ ⟨Nat.zero_le _, by rw [ho0]; simp, by rw [ho0]; show 1 ≤ _; omega, .slice none 0 0, [], .slice none 0 0, by rw [ho0]; rfl, by rw [ho0]; exact hD1⟩ ?_
  clear hD1
  rintro i w ⟨hi, hGl, haf, sv, sg, dv, hP, hD⟩
  by_cases hlt : i < R.length
  case neg =>
    obtain rfl : i = R.length := by omega
    obtain ⟨dL, hL, hB, close⟩ := hD.open
    repeat (first | (refine RunH ?_; intro w hL hB; try clear w) | (refine Both.mk ?_ ?_ <;> conv => whnf) | fail)
    exact ⟨m, rfl, ⟨sv, sg, dv, hP, hD.sub (List.sublist_cons_self _ _)⟩⟩
  have hstep := hoS i hlt
  have hoS' : ∀ q, o (i + 1) = q → o (i + 1) = q := fun _ h => h
  have hgn : (R.map fun f => Value.string f.nm)[i]? = some (.string (R[i]).nm) := by rw [List.getElem?_map, List.getElem?_eq_getElem hlt]; rfl
  have hnz := hRn _ (List.getElem_mem hlt)
  have hsgl : sg.length = (o i).G.length := by have := congrArg List.length hP; simpa using this
  generalize (R[i]).nm = nm at *
  generalize hoi : o i = oi at *
  obtain ⟨G, af, S, good⟩ := oi
  dsimp only at hGl haf hP hD hstep hsgl ⊢
  obtain ⟨dL, hL, hB, close⟩ := hD.open
  clear hD
  obtain ⟨sa, sc, rfl⟩ := (show SlN w 2 sv sg.length _ from hL.rowN (i := 2) rfl).shape
  obtain ⟨ng, no, rfl, _⟩ := (show SlN w 1 _ R.length _ from hL.rowN (i := 0) rfl).addr (by omega)
  have hbig := fun {F' : List Res} (h : Sep Tryz.prog B w0 w (F' ++ dL)) => (close h hB).bigK nm
  have hbl : (fileD S nm).length ≤ 1073741824 := hbig (F' := _ :: (rlR m k pre _ sg af dv (G.map Wg.first) ++ F)) hL
  clear hbig
  replace hL : Sep Tryz.prog B w0 w (.row 9 1 (.slice (some ⟨ng, no, none⟩) R.length nc) R.length (R.map fun f => .string f.nm) :: .blk m [.pointer (some ⟨k, 0, none⟩), .string pre, .slice sa sg.length sc, .int .i64 (af : Int), dv] 128 :: .row 133 2 (.slice sa sg.length sc) sg.length (sg.flatMap Rg.cells) :: .row 3 1 dv (G.map Wg.first).length ((G.map Wg.first).map iN) :: (sg.flatMap Rg.res ++ F) ++ dL) := hL
  repeat (first | (refine RunH ?_; intro w hL hB; try clear w) | (refine Both.mk ?_ ?_ <;> conv => whnf) | fail)
  intro o1 ho1
  conv => whnf
  refine Ld.row1 ttOk (hL.rowN (i := 0) rfl).rowOf tl9 rfl hgn (by omega) ?_
  conv => whnf
  repeat (first | (refine RunH ?_; intro w hL hB; try clear w) | (refine Both.mk ?_ ?_ <;> conv => whnf) | fail)
  refine (numberR_fn pre nm (by omega) (by omega) w).mono fun r w1 ⟨hr, hw⟩ => ?_
  subst hr
  rw [hw]
  clear hw
  have back : ∀ {w : World} {S' : List Fl}, RkS B w0 w k room S' (.row 9 1 (.slice (some ⟨ng, no, none⟩) R.length nc) R.length (R.map fun f => .string f.nm) :: (rlR m k pre (.slice sa sg.length sc) sg af dv (G.map Wg.first) ++ F)) → ∃ sv sg dv, sg.map Rg.fe = G.map Wg.fe ∧ RkS B w0 w k room S' (.row 9 1 (.slice (some ⟨ng, no, none⟩) R.length nc) R.length (R.map fun f => .string f.nm) :: (rlR m k pre sv sg af dv (G.map Wg.first) ++ F)) := fun h => ⟨_, sg, dv, hP, h⟩
  cases hng : numG pre nm with
  | none =>
    have hs2 : o (i + 1) = ⟨G, af, S, good⟩ := by rw [hstep, openStep, hng]
    conv => whnf
    repeat (first | (refine RunH ?_; intro w hL hB; try clear w) | (refine Both.mk ?_ ?_ <;> conv => whnf) | fail)
    refine ⟨i + 1, ⟨rfl, rfl, rfl, rfl, by rw [hs2]; rfl, vint (by push_cast; rfl), trivial⟩, ⟨by omega, by rw [hs2]; dsimp only; omega, by rw [hs2]; exact haf, ?_⟩, (by first | omega | (dsimp only; omega))⟩
    rw [hs2]
    exact back (close (F' := _ :: (rlR m k pre _ sg af dv (G.map Wg.first) ++ F)) hL hB)
  | some n =>
  rw [show numI (some n) = (n : Int) from rfl]
  have hn := numG_le hng
  have hnn : ¬ ((n : Int) < 0) := by omega
  have hrow := (show SlN w 1 _ R.length _ from hL.rowN (i := 0) rfl).rowOf
  by_cases hbad : good = false ∨ n < 1 ∨ (G ≠ [] ∧ n ≠ af)
  · have hs2 : o (i + 1) = ⟨G, af, delS S nm, false⟩ := by rw [hstep, openStep_bad hng hbad]
    cases good with
    | false =>
      repeat (first | (refine RunH ?_; intro w hL hB; try clear w) | (refine Both.mk ?_ ?_ <;> conv => whnf) | fail)
      intro o2 ho2
      conv => whnf
      refine Ld.row1 ttOk hrow tl9 rfl hgn (by omega) ?_
      conv => whnf
      repeat (first | (refine RunH ?_; intro w hL hB; try clear w) | (refine Both.mk ?_ ?_ <;> conv => whnf) | fail)
      refine (removeR_fn nm (close (F' := .row 9 1 (.slice (some ⟨ng, no, none⟩) R.length nc) R.length (R.map fun f => .string f.nm) :: (rlR m k pre (.slice sa sg.length sc) sg af dv (G.map Wg.first) ++ F)) hL hB)).mono fun r w ⟨hr, hD⟩ => ?_
      subst hr
      clear hL hB close
      obtain ⟨dL, hL, hB, close⟩ := hD.open
      conv => whnf
      repeat (first | (refine RunH ?_; intro w hL hB; try clear w) | (refine Both.mk ?_ ?_ <;> conv => whnf) | fail)
      refine ⟨i + 1, ⟨rfl, rfl, rfl, rfl, by rw [hs2]; rfl, vint (by push_cast; rfl), trivial⟩, ⟨by omega, by rw [hs2]; dsimp only; omega, by rw [hs2]; exact haf, ?_⟩, (by first | omega | (dsimp only; omega))⟩
      rw [hs2]
      exact back hD
    | true =>
      by_cases hb1 : n < 1
      · have hb1' : (n : Int) < 1 := by omega
        repeat (first | (refine RunH ?_; intro w hL hB; try clear w) | (refine Both.mk ?_ ?_ <;> conv => whnf) | fail)
        intro o2 ho2
        conv => whnf
        refine Ld.row1 ttOk hrow tl9 rfl hgn (by omega) ?_
        conv => whnf
        repeat (first | (refine RunH ?_; intro w hL hB; try clear w) | (refine Both.mk ?_ ?_ <;> conv => whnf) | fail)
        refine (removeR_fn nm (close (F' := .row 9 1 (.slice (some ⟨ng, no, none⟩) R.length nc) R.length (R.map fun f => .string f.nm) :: (rlR m k pre (.slice sa sg.length sc) sg af dv (G.map Wg.first) ++ F)) hL hB)).mono fun r w ⟨hr, hD⟩ => ?_
        subst hr
        clear hL hB close
        obtain ⟨dL, hL, hB, close⟩ := hD.open
        conv => whnf
        repeat (first | (refine RunH ?_; intro w hL hB; try clear w) | (refine Both.mk ?_ ?_ <;> conv => whnf) | fail)
        refine ⟨i + 1, ⟨rfl, rfl, rfl, rfl, by rw [hs2]; rfl, vint (by push_cast; rfl), trivial⟩, ⟨by omega, by rw [hs2]; dsimp only; omega, by rw [hs2]; exact haf, ?_⟩, (by first | omega | (dsimp only; omega))⟩
        rw [hs2]
        exact back hD
      · have hb1' : ¬ (n : Int) < 1 := by omega
        have hb2 : G ≠ [] ∧ n ≠ af := by
          rcases hbad with h | h | h
          · cases h
          · exact absurd h hb1
          · exact h
        have hb3 : 0 < sg.length := by
          rw [hsgl]; exact List.length_pos_iff.2 hb2.1
        have hb4 : ¬ (n : Int) = (af : Int) := by have := hb2.2; omega
        repeat (first | (refine RunH ?_; intro w hL hB; try clear w) | (refine Both.mk ?_ ?_ <;> conv => whnf) | fail)
        intro o2 ho2
        conv => whnf
        refine Ld.row1 ttOk hrow tl9 rfl hgn (by omega) ?_
        conv => whnf
        repeat (first | (refine RunH ?_; intro w hL hB; try clear w) | (refine Both.mk ?_ ?_ <;> conv => whnf) | fail)
        refine (removeR_fn nm (close (F' := .row 9 1 (.slice (some ⟨ng, no, none⟩) R.length nc) R.length (R.map fun f => .string f.nm) :: (rlR m k pre (.slice sa sg.length sc) sg af dv (G.map Wg.first) ++ F)) hL hB)).mono fun r w ⟨hr, hD⟩ => ?_
        subst hr
        clear hL hB close
        obtain ⟨dL, hL, hB, close⟩ := hD.open
        conv => whnf
        repeat (first | (refine RunH ?_; intro w hL hB; try clear w) | (refine Both.mk ?_ ?_ <;> conv => whnf) | fail)
        refine ⟨i + 1, ⟨rfl, rfl, rfl, rfl, by rw [hs2]; rfl, vint (by push_cast; rfl), trivial⟩, ⟨by omega, by rw [hs2]; dsimp only; omega, by rw [hs2]; exact haf, ?_⟩, (by first | omega | (dsimp only; omega))⟩
        rw [hs2]
        exact back hD
  have hgood : good = true := by
    cases good with
    | true => rfl
    | false => exact absurd (.inl rfl) hbad
  subst hgood
  have hb1 : ¬ (n : Int) < 1 := by
    have : ¬ n < 1 := fun h => hbad (.inr (.inl h))
    omega
  have hb2 : 0 < sg.length → (n : Int) = (af : Int) := fun h => by
    have h1 : G ≠ [] := by
      rw [hsgl] at h
      exact List.length_pos_iff.1 h
    have : ¬ n ≠ af := fun h2 => hbad (.inr (.inr ⟨h1, h2⟩))
    omega
  conv => whnf
  repeat (first | (refine Br.go ?_; first | ((first | refine Br.tt ?_ | refine Br.ff ?_ | refine Br.y ?_ | refine Br.n ?_ | refine Br.t ?_ | refine Br.f ?_ | fail); conv => whnf) | refine Br.not ?_ | fail) | (refine Ld.go ?_; first | ((first | refine Ld.x ttOk hL ?_ | refine Ld.p ttOk hL ?_ | fail); conv => whnf) | fail) | (refine St.x ttOk hL hB (fun w hL hB => ?_); dsimp only [List.set, splice, overL, cellsL, takeL, dropL, List.drop, List.take, rkRes, List.append_nil, List.nil_append, List.cons_append] at hL; conv => whnf) | (refine Lq.go ?_; first | ((first | refine Lq.x ttOk hL.cls ?_ | refine Lq.x ttOk (fun _ h => h) ?_ | refine Lq.p ttOk hL.cls ?_ | refine Lq.p ttOk (fun _ h => h) ?_ | fail); conv => whnf) | fail) | (refine Ar.go ?_; first | ((first | refine Ar.s ?_ | refine Ar.u ?_ | refine Ar.h ?_ | refine Ar.b ?_ | fail); conv => whnf) | fail) | ((first | refine Chk.m ?_ | refine Qv.str ttOk rfl rfl rfl ?_ | refine An.x hL ?_ | fail); conv => whnf) | (refine Both.mk ?_ ?_ <;> conv => whnf) | fail)
  refine V.seq ?_
  refine V.join (α := Unit) (fun _ => [(0, .pointer (some ⟨k, 0, none⟩)), (1, .string pre), (6, .pointer (some ⟨m, 0, none⟩)), (7, .slice (some ⟨ng, no, none⟩) R.length nc), (8, .bool false), (9, .int .i64 (i : Int)), (10, .int .i64 (n : Int))]) (fun _ w' => w' = w) (by
    repeat (first | (refine RunH ?_; intro w hL hB; try clear w) | (refine Both.mk ?_ ?_ <;> conv => whnf) | fail)
    exact ⟨(), ⟨rfl, rfl, rfl, rfl, rfl, rfl, rfl, trivial⟩, rfl⟩) ?_
  rintro _ w' hw
  replace hw := hw.symm
  subst hw
  repeat (first | (refine Br.go ?_; first | ((first | refine Br.tt ?_ | refine Br.ff ?_ | refine Br.y ?_ | refine Br.n ?_ | refine Br.t ?_ | refine Br.f ?_ | fail); conv => whnf) | refine Br.not ?_ | fail) | (refine Ld.go ?_; first | ((first | refine Ld.x ttOk hL ?_ | refine Ld.p ttOk hL ?_ | fail); conv => whnf) | fail) | (refine St.x ttOk hL hB (fun w hL hB => ?_); dsimp only [List.set, splice, overL, cellsL, takeL, dropL, List.drop, List.take, rkRes, List.append_nil, List.nil_append, List.cons_append] at hL; conv => whnf) | (refine Lq.go ?_; first | ((first | refine Lq.x ttOk hL.cls ?_ | refine Lq.x ttOk (fun _ h => h) ?_ | refine Lq.p ttOk hL.cls ?_ | refine Lq.p ttOk (fun _ h => h) ?_ | fail); conv => whnf) | fail) | (refine Ar.go ?_; first | ((first | refine Ar.s ?_ | refine Ar.u ?_ | refine Ar.h ?_ | refine Ar.b ?_ | fail); conv => whnf) | fail) | ((first | refine Chk.m ?_ | refine Qv.str ttOk rfl rfl rfl ?_ | refine An.x hL ?_ | fail); conv => whnf) | (refine Both.mk ?_ ?_ <;> conv => whnf) | fail)
  refine V.seq ?_
  refine V.join (α := Unit) (fun _ => [(0, .pointer (some ⟨k, 0, none⟩)), (1, .string pre), (6, .pointer (some ⟨m, 0, none⟩)), (7, .slice (some ⟨ng, no, none⟩) R.length nc), (8, .bool false), (9, .int .i64 (i : Int)), (10, .int .i64 (n : Int))]) (fun _ w' => w' = w) (by
    by_cases h0 : 0 < sg.length
    · have hb3 := hb2 h0
      repeat (first | (refine RunH ?_; intro w hL hB; try clear w) | (refine Both.mk ?_ ?_ <;> conv => whnf) | fail)
      exact ⟨(), ⟨rfl, rfl, rfl, rfl, rfl, rfl, rfl, trivial⟩, rfl⟩
    · repeat (first | (refine RunH ?_; intro w hL hB; try clear w) | (refine Both.mk ?_ ?_ <;> conv => whnf) | fail)
      exact ⟨(), ⟨rfl, rfl, rfl, rfl, rfl, rfl, rfl, trivial⟩, rfl⟩) ?_
  rintro _ w' hw
  replace hw := hw.symm
  subst hw
  repeat (first | (refine RunH ?_; intro w hL hB; try clear w) | (refine Both.mk ?_ ?_ <;> conv => whnf) | fail)
  intro o2 ho2
  conv => whnf
  refine Ld.row1 ttOk hrow tl9 rfl hgn (by omega) ?_
  conv => whnf
  repeat (first | (refine RunH ?_; intro w hL hB; try clear w) | (refine Both.mk ?_ ?_ <;> conv => whnf) | fail)
  obtain ⟨bv0, hbv⟩ : ∃ x : List UInt8, x = fileD S nm := ⟨_, rfl⟩
  refine (readR4_fn nm (close (F' := .row 9 1 (.slice (some ⟨ng, no, none⟩) R.length nc) R.length (R.map fun f => .string f.nm) :: (rlR m k pre (.slice sa sg.length sc) sg af dv (G.map Wg.first) ++ F)) hL hB)).mono fun r w hr => ?_
  replace hr : ∃ u e, r = .tuple #[u, .int .i64 e] ∧ RkS B w0 w k room S (.row 5 1 u bv0.length (bv bv0) :: .row 9 1 (.slice (some ⟨ng, no, none⟩) R.length nc) R.length (R.map fun f => .string f.nm) :: (rlR m k pre (.slice sa sg.length sc) sg af dv (G.map Wg.first) ++ F)) := by
    rw [hbv, fileD]
    cases hg : getS S nm with
    | some f =>
      rw [hg] at hr
      obtain ⟨u, rfl, hD⟩ := hr
      exact ⟨u, 0, rfl, hD⟩
    | none =>
      rw [hg] at hr
      obtain ⟨rfl, hD⟩ := hr
      obtain ⟨dL, hL, hB, close⟩ := hD.open
      exact ⟨_, 7, rfl, close (F' := .row 5 1 (.slice none 0 0) 0 [] :: _ :: (rlR m k pre _ sg af dv (G.map Wg.first) ++ F)) (hL.nilRow 5 1) hB⟩
  clear hL hB close hrow
  obtain ⟨u, e, rfl, hD⟩ := hr
  obtain ⟨dL, hL, hB, close⟩ := hD.open
  clear hD
  rw [← hbv] at hbl
  obtain ⟨ua, uc, rfl⟩ := (show SlN w 1 u bv0.length _ from hL.rowN (i := 0) rfl).shape
  conv => whnf
  repeat (first | (refine RunH ?_; intro w hL hB; try clear w) | (refine Both.mk ?_ ?_ <;> conv => whnf) | fail)
  refine (readW_fn n hn bv0 hbl _ (fun w' h => h.row (i := 0) rfl) hL hB).mono fun r w ⟨es, lv, hr, hrd, hL, hB⟩ => ?_
  subst hr
  have hst := openStep_ok (xs := es.map En.d) hng hbad (by rw [← hbv]; exact hrd)
  rw [← hbv] at hst
  rw [hst] at hstep
  clear hst
  obtain ⟨la, lc, rfl⟩ := RowC.shape (show RowC w _ lv es.length _ from hL.at (i := 0) rfl)
  obtain ⟨at_, hat⟩ : ∃ a, a = lenW n (es.map En.d) := ⟨_, rfl⟩
  have hat2 : at_ ≤ 1073741824 := by
    have h1 := rdW_len (bv0.length + 1) n bv0
    rw [hrd] at h1
    omega
  have hel := lenW_ge n (es.map En.d)
  rw [← hat] at hel hstep ⊢
  rw [List.length_map] at hel hstep
  clear hrd
  have h1 := (hL.perm ((List.perm_append_comm_assoc (es.map En.res) [_, _, _, _, _] _).cons _)).pop 1
  replace h1 : Sep Tryz.prog B w0 w (.rc 23 (.slice la es.length lc) es.length (es.map En.v) :: .row 9 1 (.slice (some ⟨ng, no, none⟩) R.length nc) R.length (R.map fun f => .string f.nm) :: .blk m [.pointer (some ⟨k, 0, none⟩), .string pre, .slice sa sg.length sc, .int .i64 (af : Int), dv] 128 :: .row 133 2 (.slice sa sg.length sc) sg.length (sg.flatMap Rg.cells) :: .row 3 1 dv (G.map Wg.first).length ((G.map Wg.first).map iN) :: (es.map En.res ++ (sg.flatMap Rg.res ++ F ++ dL))) := h1
  clear hL
  have hL := h1
  clear h1
  rw [← List.append_assoc (es.map En.res)] at hL
  replace hL : Sep Tryz.prog B w0 w ((.rc 23 (.slice la es.length lc) es.length (es.map En.v) :: .row 9 1 (.slice (some ⟨ng, no, none⟩) R.length nc) R.length (R.map fun f => .string f.nm) :: .blk m [.pointer (some ⟨k, 0, none⟩), .string pre, .slice sa sg.length sc, .int .i64 (af : Int), dv] 128 :: .row 133 2 (.slice sa sg.length sc) sg.length (sg.flatMap Rg.cells) :: .row 3 1 dv (G.map Wg.first).length ((G.map Wg.first).map iN) :: (es.map En.res ++ (sg.flatMap Rg.res ++ F))) ++ dL) := hL
  obtain ⟨wh, hwh⟩ : ∃ b, b = decide (at_ = bv0.length) := ⟨_, rfl⟩
  rw [← hwh]
  conv => whnf
  repeat (first | (refine RunH ?_; intro w hL hB; try clear w) | (refine Both.mk ?_ ?_ <;> conv => whnf) | fail)
  (refine Nw.sep hL hB (fun b13 w hL hB hb13 => ?_); conv => whnf)
  repeat (first | (refine RunH ?_; intro w hL hB; try clear w) | (refine Both.mk ?_ ?_ <;> conv => whnf) | fail)
  have hbm : ∀ {w : World} {R1 R2 : List Res}, Sep Tryz.prog B w0 w (R1 ++ (.row 9 1 (.slice (some ⟨ng, no, none⟩) R.length nc) R.length (R.map fun f => .string f.nm) :: R2)) → Row w ng no (R.map fun f => .string f.nm) := fun h =>
    (SlN.of_own (show World.ownsRow _ _ _ _ _ _ _ from h.hold (.row 9 1 (.slice (some ⟨ng, no, none⟩) R.length nc) R.length (R.map fun f => .string f.nm)) (List.mem_append_right _ (List.mem_cons_self ..)))).rowOf
  refine Br.meet (α := List Fl × Bool) (fun z => [(0, .pointer (some ⟨k, 0, none⟩)), (1, .string pre), (6, .pointer (some ⟨m, 0, none⟩)), (7, .slice (some ⟨ng, no, none⟩) R.length nc), (8, .bool z.2), (9, .int .i64 (i : Int)), (10, .int .i64 (n : Int)), (13, .pointer (some ⟨b13, 0, none⟩))])
    (fun z w' => o (i + 1) = ⟨G ++ [⟨n, es.map En.d, true⟩], n + es.length, z.1, !z.2⟩ ∧ RkS B w0 w' k room z.1 (.blk b13 [.int .i64 (n : Int), .slice la es.length lc] 133 :: .rc 23 (.slice la es.length lc) es.length (es.map En.v) :: .row 9 1 (.slice (some ⟨ng, no, none⟩) R.length nc) R.length (R.map fun f => .string f.nm) :: .blk m [.pointer (some ⟨k, 0, none⟩), .string pre, .slice sa sg.length sc, .int .i64 (af : Int), dv] 128 :: .row 133 2 (.slice sa sg.length sc) sg.length (sg.flatMap Rg.cells) :: .row 3 1 dv (G.map Wg.first).length ((G.map Wg.first).map iN) :: (es.map En.res ++ (sg.flatMap Rg.res ++ F)))) (fun hf => ?_) (fun hf => ?_) ?_
  · rw [hf] at hwh
    have h2 : at_ = bv0.length := of_decide_eq_true hwh.symm
    rw [if_pos h2] at hstep
    repeat (first | (refine RunH ?_; intro w hL hB; try clear w) | (refine Both.mk ?_ ?_ <;> conv => whnf) | fail)
    exact ⟨(S, false), ⟨rfl, rfl, rfl, rfl, rfl, rfl, rfl, rfl, trivial⟩, hstep, close (F' := .blk b13 [.int .i64 (n : Int), .slice la es.length lc] 133 :: .rc 23 (.slice la es.length lc) es.length (es.map En.v) :: .row 9 1 (.slice (some ⟨ng, no, none⟩) R.length nc) R.length (R.map fun f => .string f.nm) :: .blk m [.pointer (some ⟨k, 0, none⟩), .string pre, .slice sa sg.length sc, .int .i64 (af : Int), dv] 128 :: .row 133 2 (.slice sa sg.length sc) sg.length (sg.flatMap Rg.cells) :: .row 3 1 dv (G.map Wg.first).length ((G.map Wg.first).map iN) :: (es.map En.res ++ (sg.flatMap Rg.res ++ F))) hL hB⟩
  · rw [hf] at hwh
    have h2 : ¬ at_ = bv0.length := of_decide_eq_false hwh.symm
    rw [if_neg h2] at hstep
    have hrow := hbm (R1 := [_, _]) hL
    by_cases h0 : at_ = 0
    · rw [if_pos h0] at hstep
      subst h0
      repeat (first | (refine RunH ?_; intro w hL hB; try clear w) | (refine Both.mk ?_ ?_ <;> conv => whnf) | fail)
      intro o3 ho3
      conv => whnf
      refine Ld.row1 ttOk hrow tl9 rfl hgn (by omega) ?_
      conv => whnf
      repeat (first | (refine RunH ?_; intro w hL hB; try clear w) | (refine Both.mk ?_ ?_ <;> conv => whnf) | fail)
      refine (removeR_fn nm (close (F' := .blk b13 [.int .i64 (n : Int), .slice la es.length lc] 133 :: .rc 23 (.slice la es.length lc) es.length (es.map En.v) :: .row 9 1 (.slice (some ⟨ng, no, none⟩) R.length nc) R.length (R.map fun f => .string f.nm) :: .blk m [.pointer (some ⟨k, 0, none⟩), .string pre, .slice sa sg.length sc, .int .i64 (af : Int), dv] 128 :: .row 133 2 (.slice sa sg.length sc) sg.length (sg.flatMap Rg.cells) :: .row 3 1 dv (G.map Wg.first).length ((G.map Wg.first).map iN) :: (es.map En.res ++ (sg.flatMap Rg.res ++ F))) hL hB)).mono fun r w ⟨hr, hD⟩ => ?_
      subst hr
      clear hL hB close
      obtain ⟨dL, hL, hB, close⟩ := hD.open
      have hfin : ∃ sv sg dv, sg.map Rg.fe = G.map Wg.fe ∧ RkS B w0 w k room (delS S nm) (.row 9 1 (.slice (some ⟨ng, no, none⟩) R.length nc) R.length (R.map fun f => .string f.nm) :: (rlR m k pre sv sg af dv (G.map Wg.first) ++ F)) :=
        back (hD.sub (.cons _ (.cons _ (.cons_cons _ (.cons_cons _ (.cons_cons _ (.cons_cons _ (List.sublist_append_right _ _))))))))
      conv => whnf
      by_cases h9 : (sg.length : Int) = 0
      · repeat (first | (refine RunH ?_; intro w hL hB; try clear w) | (refine Both.mk ?_ ?_ <;> conv => whnf) | fail)
        refine ⟨i + 1, ⟨rfl, rfl, rfl, rfl, by rw [hstep]; rfl, vint (by push_cast; rfl), trivial⟩, ⟨by omega, by rw [hstep]; dsimp only; omega, by rw [hstep]; exact haf, ?_⟩, (by first | omega | (dsimp only; omega))⟩
        rw [hstep]
        exact hfin
      · repeat (first | (refine RunH ?_; intro w hL hB; try clear w) | (refine Both.mk ?_ ?_ <;> conv => whnf) | fail)
        refine ⟨i + 1, ⟨rfl, rfl, rfl, rfl, by rw [hstep]; rfl, vint (by push_cast; rfl), trivial⟩, ⟨by omega, by rw [hstep]; dsimp only; omega, by rw [hstep]; exact haf, ?_⟩, (by first | omega | (dsimp only; omega))⟩
        rw [hstep]
        exact hfin
    · rw [if_neg h0] at hstep
      have h0' : ¬ (at_ : Int) = 0 := by omega
      repeat (first | (refine RunH ?_; intro w hL hB; try clear w) | (refine Both.mk ?_ ?_ <;> conv => whnf) | fail)
      intro o3 ho3
      conv => whnf
      refine Ld.row1 ttOk hrow tl9 rfl hgn (by omega) ?_
      conv => whnf
      repeat (first | (refine RunH ?_; intro w hL hB; try clear w) | (refine Both.mk ?_ ?_ <;> conv => whnf) | fail)
      refine (cutR_fn nm (at_ : Int) (close (F' := .blk b13 [.int .i64 (n : Int), .slice la es.length lc] 133 :: .rc 23 (.slice la es.length lc) es.length (es.map En.v) :: .row 9 1 (.slice (some ⟨ng, no, none⟩) R.length nc) R.length (R.map fun f => .string f.nm) :: .blk m [.pointer (some ⟨k, 0, none⟩), .string pre, .slice sa sg.length sc, .int .i64 (af : Int), dv] 128 :: .row 133 2 (.slice sa sg.length sc) sg.length (sg.flatMap Rg.cells) :: .row 3 1 dv (G.map Wg.first).length ((G.map Wg.first).map iN) :: (es.map En.res ++ (sg.flatMap Rg.res ++ F))) hL hB)).mono fun r w ⟨hr, hD⟩ => ?_
      subst hr
      clear hL hB close
      obtain ⟨dL, hL, hB, close⟩ := hD.open
      conv => whnf
      repeat (first | (refine RunH ?_; intro w hL hB; try clear w) | (refine Both.mk ?_ ?_ <;> conv => whnf) | fail)
      exact ⟨(_, true), ⟨rfl, rfl, rfl, rfl, rfl, rfl, rfl, rfl, trivial⟩, hstep, hD⟩
  clear hL hB close hstep hbm hwh wh
  rintro ⟨S', bad⟩ w ⟨hstep, hD⟩
  dsimp only at hstep hD ⊢
  obtain ⟨dL, hL, hB, close⟩ := hD.open
  clear hD
  replace hL : Sep Tryz.prog B w0 w (.blk b13 [.int .i64 (n : Int), .slice la es.length lc] 133 :: .rc 23 (.slice la es.length lc) es.length (es.map En.v) :: .row 9 1 (.slice (some ⟨ng, no, none⟩) R.length nc) R.length (R.map fun f => .string f.nm) :: .blk m [.pointer (some ⟨k, 0, none⟩), .string pre, .slice sa sg.length sc, .int .i64 (af : Int), dv] 128 :: .row 133 2 (.slice sa sg.length sc) sg.length (sg.flatMap Rg.cells) :: .row 3 1 dv (G.map Wg.first).length ((G.map Wg.first).map iN) :: ((es.map En.res ++ (sg.flatMap Rg.res ++ F)) ++ dL)) := hL
  rw [List.append_assoc, List.append_assoc] at hL
  generalize hX : es.map En.res ++ (sg.flatMap Rg.res ++ (F ++ dL)) = X at *
  refine V.seq ?_
  refine V.tree ttOk (fun x => Blk x b13 [.int .i64 (n : Int), .slice la es.length lc] 133) (.q 0 (.q 1 (.q 2 (.q 3 (.q 5 (.alt 4 (.alt 6 (.alt 7 (.q 8 (.q 9 (.alt 10 .nil .stop))) .stop) .stop) (.alt 6 (.alt 4 (.alt 7 (.q 8 (.q 9 (.alt 10 .nil .stop))) .stop) .stop) .stop))))))) mixed (by decide +kernel) (hL.drew.blk (i := 0) rfl) ?_
  replace hL := hL.drew
  conv => whnf
  have hone : ∀ u ∈ [Value.int .i64 (n : Int), .slice la es.length lc], u.oneCell' = true := by intro u hu; simp only [List.mem_cons, List.not_mem_nil, or_false] at hu; rcases hu with rfl | rfl <;> rfl
  repeat' (first | (refine RunH ?_; intro w hL hB; try clear w) | (refine Br.dec (fun hbr => ?_) (fun hbr => ?_) <;> conv => whnf) | (refine Br.mk (fun hbr => ?_) (fun hbr => ?_) <;> conv => whnf) | (refine Both.mk ?_ ?_ <;> conv => whnf) | (refine Lq.of_class (v := .agg #[.int .i64 (n : Int), .slice la es.length lc]) (fun x hx => Ld.blks ttOk [.int .i64 (n : Int), .slice la es.length lc] rfl rfl hx rfl (fun j x h => by rw [Nat.zero_add]; exact h) rfl) ?_; conv => whnf) | (refine And.intro (hL.blk (i := 0) rfl) ?_; conv => whnf) | (refine And.intro (hL.blk (i := 1) rfl) ?_; conv => whnf) | (refine Rv.buildS (len := 1) ttOk hL tl126 tl133 rfl rfl (by intro u hu; simp only [List.mem_singleton] at hu; subst hu; rfl) (by decide) (by decide) hB (fun bo w hL hB => ?_); conv => whnf) | (refine Rv.appendS (m := 1) ttOk hL tl126 tl133 rfl (by decide) 5 rfl (hL.rowN (i := 0) rfl) hone (by simp only [maxLen]; omega) (by omega) hB (fun v1 w hL hB => ?_); dsimp only [List.set] at hL; obtain ⟨a1, c1, rfl⟩ := (show SlN w 2 v1 (sg.length + 1) _ from hL.rowN (i := 5) rfl).shape; conv => whnf) | fail)
  all_goals
    replace hL : Sep Tryz.prog B w0 w (_ :: _ :: _ :: _ :: .blk m _ _ :: .row 133 2 (.slice a1 (sg.length + 1) c1) (sg.length + 1) (sg.flatMap Rg.cells ++ [.int .i64 (n : Int), .slice la es.length lc]) :: _) := hL
    replace hL := hL.tl.tl
    have hGlen : (G.map Wg.first).length ≤ 256 := by rw [List.length_map]; omega
    refine Rv.buildS (len := 1) ttOk hL tl78 tl3 rfl rfl (by intro u hu; simp only [List.mem_singleton] at hu; subst hu; rfl) (by decide) (by decide) hB fun bo w hL hB => ?_
    replace hL : Sep Tryz.prog B w0 w (.row 3 1 (.slice (some ⟨bo, 0, none⟩) 1 1) 1 [.int .i64 (n : Int)] :: _) := hL
    conv => whnf
    repeat (first | (refine RunH ?_; intro w hL hB; try clear w) | (refine Both.mk ?_ ?_ <;> conv => whnf) | fail)
    refine Rv.appendS (m := 1) ttOk hL tl78 tl3 rfl (by decide) 5 rfl (hL.rowN (i := 0) rfl) (by intro u hu; rw [List.mem_singleton.1 hu]; rfl) (by simp only [maxLen]; omega) (by omega) hB fun v1 w hL hB => ?_
    dsimp only [List.set] at hL
    replace hL := hL.tl
    obtain ⟨a2, c2, rfl⟩ := (show SlN w 1 v1 ((G.map Wg.first).length + 1) _ from hL.rowN (i := 4) rfl).shape
    conv => whnf
    repeat (first | (refine RunH ?_; intro w hL hB; try clear w) | (refine Both.mk ?_ ?_ <;> conv => whnf) | fail)
    refine ⟨i + 1, ⟨rfl, rfl, rfl, rfl, by rw [hstep]; show _ = some (Value.bool (!(!bad))); rw [Bool.not_not]; rfl, vint (by push_cast; rfl), trivial⟩, ⟨by omega, by rw [hstep]; simp; omega, by rw [hstep]; dsimp only; omega, ?_⟩, (by first | omega | (dsimp only; omega))⟩
    rw [hstep]
    refine ⟨.slice a1 (sg.length + 1) c1, sg ++ [⟨n, .slice la es.length lc, es⟩], .slice a2 ((G.map Wg.first).length + 1) c2, ?_, ?_⟩
    · rw [List.map_append, List.map_append, hP]; rfl
    · dsimp only
      rw [rlR, rlC, List.map_append (f := Wg.first), List.length_append, List.length_append, List.map_append, List.flatMap_append, List.flatMap_append]
      simp only [List.flatMap_cons, List.flatMap_nil, List.append_nil, List.map_cons, List.map_nil, List.length_cons, List.length_nil]
      have h3 := hL.rcRo
      rw [← hX] at h3
      have h4 := h3.perm (perm_seg2 _ _ _ _ _ _ _ _)
      rw [← List.append_assoc _ F dL] at h4
      exact close (F' := .row 9 1 (.slice (some ⟨ng, no, none⟩) R.length nc) R.length (R.map fun f => .string f.nm) :: (.blk m [.pointer (some ⟨k, 0, none⟩), .string pre, .slice a1 (sg.length + 1) c1, .int .i64 ((n + es.length : Nat) : Int), .slice a2 ((G.map Wg.first).length + 1) c2] 128 ::
        .row 133 2 (.slice a1 (sg.length + 1) c1) (sg.length + 1) (sg.flatMap Rg.cells ++ [.int .i64 (n : Int), .slice la es.length lc]) :: .row 3 1 (.slice a2 ((G.map Wg.first).length + 1) c2) ((G.map Wg.first).length + 1) ((G.map Wg.first).map iN ++ [iN n]) ::
        ((sg.flatMap Rg.res ++ (.ro (.slice la es.length lc) (es.map En.v) :: es.map En.res)) ++ F))) h4 hB
end Go.Proofs.YtjafamiaahabgaaGreatDoor
