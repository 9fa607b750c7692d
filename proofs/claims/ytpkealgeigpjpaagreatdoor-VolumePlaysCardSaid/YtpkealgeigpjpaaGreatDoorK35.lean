/- garnerref12: Open, Places, Needles, Dirt. garnerref12: Open, Dirt. Nothing is claimed here. -/
import Derived.Test.YtpkealgeigpjpaaGreatDoorK34
namespace Go.Proofs.YtpkealgeigpjpaaGreatDoor
open Go.RowKit Go.Lib
set_option linter.unusedVariables false
set_option linter.unusedSimpArgs false
set_option maxRecDepth 100000
theorem pcs_one (rL : List Pc) : ∀ u ∈ rL.flatMap pcC, u.oneCell' = true := fun u hu => by
  obtain ⟨q, _, hq⟩ := List.mem_flatMap.1 hu
  simp only [pcC, List.mem_cons, List.not_mem_nil, or_false] at hq
  rcases hq with rfl | rfl | rfl | rfl | rfl <;> rfl
theorem pc_one (p : Pc) : ∀ u ∈ pcC p, u.oneCell' = true := fun u hq => by
  simp only [pcC, List.mem_cons, List.not_mem_nil, or_false] at hq
  rcases hq with rfl | rfl | rfl | rfl | rfl <;> rfl
theorem insP_len (out : List Pc) (p : Pc) : (insP out p).length ≤ out.length + 1 := by
  induction out with
  | nil => simp [insP]
  | cons c C ih =>
    rw [insP]
    split
    · simp only [List.length_cons]; omega
    · split <;> simp
theorem plsR_len (rL l : List Pc) : (plsR rL l).length ≤ l.length := by
  have gen : ∀ (l out : List Pc), (l.foldl (fun out q => insP out ((there none rL q.key).getD (noPc q.key))) out).length ≤ out.length + l.length := fun l => by
    induction l with
    | nil => intro out; simp
    | cons q l ih =>
      intro out
      have h1 := ih (insP out ((there none rL q.key).getD (noPc q.key)))
      have h2 := insP_len out ((there none rL q.key).getD (noPc q.key))
      simp only [List.foldl_cons, List.length_cons]
      omega
  have := gen l []
  simpa [plsR] using this
section
variable {B k x room id : Nat} {ra : Option Addr} {rc : Nat} {ps rL : List Pc} {R : List Fl} {F : List Res} {w0 w : World}
set_option maxHeartbeats 8000000 in
theorem rplaces_fn (hrl : rL.length ≤ 1000000) (hL : Sep Tryz.prog B w0 w (rvRes x k id ra rc rL F)) (hB : B ≤ w.heap.size) :
    Fn Tryz.prog 48 #[ptr x] w fun r w' => Sep Tryz.prog B w0 w' (.row 97 5 r (plsR rL rL).length ((plsR rL rL).flatMap pcC) :: rvRes x k id ra rc rL F) ∧ B ≤ w'.heap.size := by
  rw [rvRes] at *
  refine Fn.mk Tryz.func48 rfl (by kernel_rfl) Tryz.ntmps48 rfl (by rw [Tryz.results48]) ?_
  repeat (first | (refine RunH ?_; intro w hL hB; try clear w) | (refine Both.mk ?_ ?_ <;> conv => whnf) | fail)
  have hLn := hL.addRow hB (Below.refl _ _) (e := 97) (sz := 5) (v := .slice none 0 0) (n := 0) (xs := []) ⟨rfl, .inl ⟨rfl, rfl⟩⟩
  refine V.loop (α := Nat × Option Addr × Nat × Nat) (fun z => [(0, ptr x), (3, .slice z.2.1 z.2.2.2 z.2.2.1), (4, .int .i64 (z.1 : Int))])
    (fun z w' => z.1 ≤ rL.length ∧ z.2.2.2 = (plsR rL (rL.take z.1)).length ∧ Sep Tryz.prog B w0 w' (.row 97 5 (.slice z.2.1 z.2.2.2 z.2.2.1) z.2.2.2 ((plsR rL (rL.take z.1)).flatMap pcC) :: .blk x [ptr k, .int .i64 (id : Int), .slice ra rL.length rc] 80 :: .row 97 5 (.slice ra rL.length rc) rL.length (rL.flatMap pcC) :: F) ∧ B ≤ w'.heap.size) (fun z => rL.length - z.1) (0, none, 0, 0) ⟨rfl, rfl, rfl, trivial⟩ ⟨Nat.zero_le _, by simp [plsR], by simpa [plsR] using hLn, hB⟩ ?_
  clear hL hB hLn
  rintro ⟨i, oa, oc, on⟩ w ⟨hi, hon, hL, hB⟩
  dsimp only at hi hon hL ⊢
  by_cases hil : i < rL.length
  · have htk : rL.take (i + 1) = rL.take i ++ [rL[i]] := List.take_succ_eq_append_getElem hil
    have hget := List.getElem?_eq_getElem hil
    have hpl : plsR rL (rL.take (i + 1)) = insP (plsR rL (rL.take i)) ((there none rL (rL[i]).key).getD (noPc (rL[i]).key)) := by rw [htk, plsR_snoc]
    obtain ⟨p, hg, hpk, hpm⟩ := there_some (List.getElem_mem hil)
    rw [hg, Option.getD_some] at hpl
    have hsrt := (plsR_of rL i (by omega)).1
    have hlen : (plsR rL (rL.take i)).length ≤ i := by
      have := plsR_len rL (rL.take i)
      simp only [List.length_take] at this
      omega
    generalize hO : plsR rL (rL.take i) = O at *
    generalize rL[i] = q at *
    subst hon
    obtain ⟨bb, o, rfl, hrow0⟩ := SlN.addr (show SlN w 5 (.slice ra rL.length rc) rL.length _ from hL.rowN (i := 2) rfl) (by omega)
    repeat (first | (refine RunH ?_; intro w hL hB; try clear w) | (refine Both.mk ?_ ?_ <;> conv => whnf) | fail)
    intro o1 ho1
    conv => whnf
    repeat (first | (refine RunH ?_; intro w hL hB; try clear w) | (refine Both.mk ?_ ?_ <;> conv => whnf) | fail)
    refine Ld.rowF ttOk pcC_len 0 (hL.rowN (i := 2) rfl).rowOf tl45 rfl hget rfl (by omega) ?_
    conv => whnf
    repeat (first | (refine RunH ?_; intro w hL hB; try clear w) | (refine Both.mk ?_ ?_ <;> conv => whnf) | fail)
    refine (thereR_fn q.key (hL.blk (i := 1) rfl) (hL.rowN (i := 2) rfl)).mono fun r w ⟨hr, hw⟩ => ?_
    subst hr
    replace hL := hL.call hB (Turns.of_below hw)
    replace hB := Nat.le_trans hB hw.size
    rw [hg]
    dsimp only [pcOf, pcV]
    conv => whnf
    (refine Nw.sep hL hB (fun t5 w hL hB ht5 => ?_); conv => whnf)
    repeat (first | (refine Br.go ?_; first | ((first | refine Br.tt ?_ | refine Br.ff ?_ | refine Br.y ?_ | refine Br.n ?_ | refine Br.t ?_ | refine Br.f ?_ | fail); conv => whnf) | refine Br.not ?_ | fail) | (refine Ld.go ?_; first | ((first | refine Ld.x ttOk hL ?_ | refine Ld.p ttOk hL ?_ | fail); conv => whnf) | fail) | (refine St.x ttOk hL hB (fun w hL hB => ?_); dsimp only [List.set, splice, overL, cellsL, takeL, dropL, List.drop, List.take] at hL; conv => whnf) | (refine Lq.go ?_; first | ((first | refine Lq.x ttOk hL.cls ?_ | refine Lq.x ttOk (fun _ h => h) ?_ | refine Lq.p ttOk hL.cls ?_ | refine Lq.p ttOk (fun _ h => h) ?_ | fail); conv => whnf) | fail) | (refine Ar.go ?_; first | ((first | refine Ar.s ?_ | refine Ar.u ?_ | refine Ar.h ?_ | refine Ar.b ?_ | fail); conv => whnf) | fail) | ((first | refine Chk.m ?_ | refine Qv.str ttOk rfl rfl rfl ?_ | refine An.x hL ?_ | fail); conv => whnf) | (refine Both.mk ?_ ?_ <;> conv => whnf) | fail)
    refine V.seq ?_
    refine V.reg ttOk ?_
    conv => whnf
    repeat (first | (refine Br.go ?_; first | ((first | refine Br.tt ?_ | refine Br.ff ?_ | refine Br.y ?_ | refine Br.n ?_ | refine Br.t ?_ | refine Br.f ?_ | fail); conv => whnf) | refine Br.not ?_ | fail) | (refine Ld.go ?_; first | ((first | refine Ld.x ttOk hL ?_ | refine Ld.p ttOk hL ?_ | fail); conv => whnf) | fail) | (refine St.x ttOk hL hB (fun w hL hB => ?_); dsimp only [List.set, splice, overL, cellsL, takeL, dropL, List.drop, List.take] at hL; conv => whnf) | (refine Lq.go ?_; first | ((first | refine Lq.x ttOk hL.cls ?_ | refine Lq.x ttOk (fun _ h => h) ?_ | refine Lq.p ttOk hL.cls ?_ | refine Lq.p ttOk (fun _ h => h) ?_ | fail); conv => whnf) | fail) | (refine Ar.go ?_; first | ((first | refine Ar.s ?_ | refine Ar.u ?_ | refine Ar.h ?_ | refine Ar.b ?_ | fail); conv => whnf) | fail) | ((first | refine Chk.m ?_ | refine Qv.str ttOk rfl rfl rfl ?_ | refine An.x hL ?_ | fail); conv => whnf) | (refine Both.mk ?_ ?_ <;> conv => whnf) | fail)
    refine V.seq ?_
    have hOle : O.length ≤ 1000000 := by omega
    refine V.join (α := Nat) (fun j => [(0, ptr x), (3, .slice oa O.length oc), (4, .int .i64 (i : Int)), (5, ptr t5), (7, .int .i64 (j : Int))]) (fun j w' => j ≤ O.length ∧ (∀ c ∈ O.take j, c.key < p.key) ∧ (∀ c, O[j]? = some c → ¬ c.key < p.key) ∧ B ≤ w'.heap.size ∧ Sep Tryz.prog B w0 w' (.blk t5 [.int .u64 (p.key : Int), .int .i64 (p.at_ : Int), .int .i64 (p.n : Int), .int .u32 (p.cook : Int), .bool p.dead] 97 :: .row 97 5 (.slice oa O.length oc) O.length (O.flatMap pcC) :: .blk x [ptr k, .int .i64 (id : Int), .slice (some ⟨bb, o, none⟩) rL.length rc] 80 :: .row 97 5 (.slice (some ⟨bb, o, none⟩) rL.length rc) rL.length (rL.flatMap pcC) :: F)) ?_ ?_
    · repeat (first | (refine RunH ?_; intro w hL hB; try clear w) | (refine Both.mk ?_ ?_ <;> conv => whnf) | fail)
      refine V.loop (α := Nat) (fun j => [(0, ptr x), (3, .slice oa O.length oc), (4, .int .i64 (i : Int)), (5, ptr t5), (7, .int .i64 (j : Int))]) (fun j w' => j ≤ O.length ∧ (∀ c ∈ O.take j, c.key < p.key) ∧ B ≤ w'.heap.size ∧ Sep Tryz.prog B w0 w' (.blk t5 [.int .u64 (p.key : Int), .int .i64 (p.at_ : Int), .int .i64 (p.n : Int), .int .u32 (p.cook : Int), .bool p.dead] 97 :: .row 97 5 (.slice oa O.length oc) O.length (O.flatMap pcC) :: .blk x [ptr k, .int .i64 (id : Int), .slice (some ⟨bb, o, none⟩) rL.length rc] 80 :: .row 97 5 (.slice (some ⟨bb, o, none⟩) rL.length rc) rL.length (rL.flatMap pcC) :: F)) (fun j => O.length - j) 0 ⟨rfl, rfl, rfl, rfl, rfl, trivial⟩ ⟨Nat.zero_le _, by simp, hB, hL⟩ ?_
      clear hL hB
      rintro j w ⟨hj, hlo, hB, hL⟩
      by_cases hjl : j < O.length
      case neg =>
        obtain rfl : j = O.length := by omega
        repeat (first | (refine RunK ?_; intro w hL hB; try clear w) | (refine V.treeA ttOk hL (.q 0 (.q 1 (.q 2 (.q 3 (.q 4 (.q 5 (.q 6 (.q 7 (.q 8 (.q 9 (.q 10 (.q 11 (.q 12 (.q 13 .nil)))))))))))))) mixed (by decide +kernel) ?_; replace hL := hL.drew; conv => whnf) | (refine V.tailA ttOk mixed (by decide +kernel) ?_; replace hL := hL.drew; conv => whnf) | (refine Both.mk ?_ ?_ <;> conv => whnf) | fail)
        exact ⟨O.length, ⟨rfl, rfl, rfl, rfl, rfl, trivial⟩, Nat.le_refl _, hlo, (fun c hc => by simp at hc), hB, hL⟩
      have hgO := List.getElem?_eq_getElem hjl
      have htkO : O.take (j + 1) = O.take j ++ [O[j]] := List.take_succ_eq_append_getElem hjl
      generalize O[j] = c at *
      obtain ⟨ob, oo, rfl, _⟩ := SlN.addr (show SlN w 5 (.slice oa O.length oc) O.length _ from hL.rowN (i := 1) rfl) (by omega)
      repeat (first | (refine RunK ?_; intro w hL hB; try clear w) | (refine V.treeA ttOk hL (.q 0 (.q 1 (.q 2 (.q 3 (.q 4 (.q 5 (.q 6 (.q 7 (.q 8 (.q 9 (.q 10 (.q 11 (.q 12 (.q 13 .nil)))))))))))))) mixed (by decide +kernel) ?_; replace hL := hL.drew; conv => whnf) | (refine V.tailA ttOk mixed (by decide +kernel) ?_; replace hL := hL.drew; conv => whnf) | (refine Both.mk ?_ ?_ <;> conv => whnf) | fail)
      intro o2 ho2
      conv => whnf
      repeat (first | (refine RunH ?_; intro w hL hB; try clear w) | (refine Both.mk ?_ ?_ <;> conv => whnf) | fail)
      refine Lq.of_class (fun x0 hx0 => Ld.rowF ttOk pcC_len 0 (hx0.rowN (i := 1) rfl).rowOf tl45 rfl hgO rfl (by omega) rfl) ?_
      conv => whnf
      by_cases hlt : c.key < p.key
      · repeat (first | (refine RunH ?_; intro w hL hB; try clear w) | (refine Both.mk ?_ ?_ <;> conv => whnf) | fail)
        refine ⟨j + 1, ⟨rfl, rfl, rfl, rfl, vint (by push_cast; rfl), trivial⟩, ⟨by omega, fun d hd => ?_, hB, hL⟩, (by first | omega | (dsimp only; omega))⟩
        rw [htkO, List.mem_append, List.mem_singleton] at hd
        rcases hd with hd | rfl
        · exact hlo d hd
        · exact hlt
      · repeat (first | (refine RunH ?_; intro w hL hB; try clear w) | (refine Both.mk ?_ ?_ <;> conv => whnf) | fail)
        exact ⟨j, ⟨rfl, rfl, rfl, rfl, rfl, trivial⟩, by omega, hlo, (fun d hd => by rw [hgO] at hd; injection hd with hd; subst hd; exact hlt), hB, hL⟩
    clear hL hB
    rintro j w ⟨hj, hlo, hhi, hB, hL⟩
    have hsplit : plsR rL (rL.take (i + 1)) = O.take j ++ insP (O.drop j) p := by rw [hpl, ← insP_split _ hlo, List.take_append_drop]
    repeat refine V.seq ?_
    refine V.join (α := Bool) (fun z => [(0, ptr x), (3, .slice oa O.length oc), (4, .int .i64 (i : Int)), (5, ptr t5), (7, .int .i64 (j : Int)), (60, .bool z)]) (fun z w' => (insP (O.drop j) p = if z = true then O.drop j else p :: O.drop j) ∧ B ≤ w'.heap.size ∧ Sep Tryz.prog B w0 w' (.blk t5 [.int .u64 (p.key : Int), .int .i64 (p.at_ : Int), .int .i64 (p.n : Int), .int .u32 (p.cook : Int), .bool p.dead] 97 :: .row 97 5 (.slice oa O.length oc) O.length (O.flatMap pcC) :: .blk x [ptr k, .int .i64 (id : Int), .slice (some ⟨bb, o, none⟩) rL.length rc] 80 :: .row 97 5 (.slice (some ⟨bb, o, none⟩) rL.length rc) rL.length (rL.flatMap pcC) :: F)) ?_ ?_
    · by_cases hjl : j < O.length
      case neg =>
        obtain rfl : j = O.length := by omega
        repeat (first | (refine RunK ?_; intro w hL hB; try clear w) | (refine V.treeA ttOk hL (.q 0 (.q 1 (.q 2 (.q 3 (.q 4 (.q 5 (.q 6 (.q 7 (.q 8 (.q 9 (.q 10 (.q 11 (.q 12 (.q 13 .nil)))))))))))))) mixed (by decide +kernel) ?_; replace hL := hL.drew; conv => whnf) | (refine V.tailA ttOk mixed (by decide +kernel) ?_; replace hL := hL.drew; conv => whnf) | (refine Both.mk ?_ ?_ <;> conv => whnf) | fail)
        exact ⟨false, ⟨rfl, rfl, rfl, rfl, rfl, rfl, trivial⟩, by rw [List.drop_length]; rfl, hB, hL⟩
      have hgO := List.getElem?_eq_getElem hjl
      have hdr : O.drop j = O[j] :: O.drop (j + 1) := List.drop_eq_getElem_cons hjl
      generalize O[j] = c at *
      have hnlt := hhi c hgO
      obtain ⟨ob, oo, rfl, _⟩ := SlN.addr (show SlN w 5 (.slice oa O.length oc) O.length _ from hL.rowN (i := 1) rfl) (by omega)
      repeat (first | (refine RunK ?_; intro w hL hB; try clear w) | (refine V.treeA ttOk hL (.q 0 (.q 1 (.q 2 (.q 3 (.q 4 (.q 5 (.q 6 (.q 7 (.q 8 (.q 9 (.q 10 (.q 11 (.q 12 (.q 13 .nil)))))))))))))) mixed (by decide +kernel) ?_; replace hL := hL.drew; conv => whnf) | (refine V.tailA ttOk mixed (by decide +kernel) ?_; replace hL := hL.drew; conv => whnf) | (refine Both.mk ?_ ?_ <;> conv => whnf) | fail)
      intro o2 ho2
      conv => whnf
      repeat (first | (refine RunH ?_; intro w hL hB; try clear w) | (refine Both.mk ?_ ?_ <;> conv => whnf) | fail)
      refine Lq.of_class (fun x0 hx0 => Ld.rowF ttOk pcC_len 0 (hx0.rowN (i := 1) rfl).rowOf tl45 rfl hgO rfl (by omega) rfl) ?_
      conv => whnf
      by_cases heq : c.key = p.key
      · repeat (first | (refine RunH ?_; intro w hL hB; try clear w) | (refine Both.mk ?_ ?_ <;> conv => whnf) | fail)
        exact ⟨true, ⟨rfl, rfl, rfl, rfl, rfl, zboolE (decide_eq_true (by omega)), trivial⟩, by rw [hdr, insP, if_neg hnlt, if_pos heq, if_pos rfl], hB, hL⟩
      · repeat (first | (refine RunH ?_; intro w hL hB; try clear w) | (refine Both.mk ?_ ?_ <;> conv => whnf) | fail)
        exact ⟨false, ⟨rfl, rfl, rfl, rfl, rfl, zboolE (decide_eq_false (by omega)), trivial⟩, by rw [hdr, insP, if_neg hnlt, if_neg heq, if_neg (by decide)], hB, hL⟩
    clear hL hB hhi
    rintro z w ⟨hins, hB, hL⟩
    rw [hins] at hsplit
    cases z with
    | true =>
      rw [if_pos rfl, List.take_append_drop] at hsplit
      repeat (first | (refine RunH ?_; intro w hL hB; try clear w) | (refine Both.mk ?_ ?_ <;> conv => whnf) | fail)
      refine ⟨(i + 1, oa, oc, O.length), ⟨rfl, rfl, vint (by push_cast; rfl), trivial⟩, ⟨by dsimp only; omega, by dsimp only; rw [hsplit], ?_, hB⟩, (by first | omega | (dsimp only; omega))⟩
      dsimp only
      rw [hsplit]
      exact hL.tl
    | false =>
      rw [if_neg (by decide)] at hsplit
      have hOl : O.length = j + (O.drop j).length := by rw [List.length_drop]; omega
      have hAl : (O.take j).length = j := by rw [List.length_take]; omega
      repeat (first | (refine RunH ?_; intro w hL hB; try clear w) | (refine Both.mk ?_ ?_ <;> conv => whnf) | fail)
      refine Rv.buildS (len := 0) (vs := []) ttOk hL tl78 tl97 rfl rfl (by intro u hu; cases hu) (by decide) (by decide) hB fun bo w hL hB => ?_
      replace hL : Sep Tryz.prog B w0 w (.row 97 5 (.slice (some ⟨bo, 0, none⟩) 0 0) 0 [] :: _) := hL
      conv => whnf
      rcases own_shape (hL.ownR (i := 2) rfl) with ⟨hsn, h0⟩ | ⟨og, ogc, hsn, hgc⟩
      · injection hsn with e1 e2 e3
        subst e1; subst e3
        obtain rfl := List.eq_nil_of_length_eq_zero h0
        obtain rfl : j = 0 := by simpa using hj
        repeat (first | (refine RunH ?_; intro w hL hB; try clear w) | (refine Both.mk ?_ ?_ <;> conv => whnf) | fail)
        intro n1 c1 q1 q2
        obtain rfl : n1 = 0 := by simp at q1; omega
        obtain rfl : c1 = 0 := by simp at q2; omega
        conv => whnf
        repeat (first | (refine RunH ?_; intro w hL hB; try clear w) | (refine Both.mk ?_ ?_ <;> conv => whnf) | fail)
        refine Rv.appendS (m := 0) (news := []) ttOk hL tl78 tl97 rfl (by decide) 0 rfl (SlN.nil _ _) (by simp) (by simp only [maxLen]; omega) (by omega) hB fun vo w hL hB => ?_
        dsimp only [List.set] at hL
        rw [Nat.zero_add, List.nil_append] at hL
        obtain ⟨xa, xc, rfl⟩ := (show SlN w 5 vo 0 _ from hL.rowN (i := 0) rfl).shape
        conv => whnf
        repeat (first | (refine RunH ?_; intro w hL hB; try clear w) | (refine Both.mk ?_ ?_ <;> conv => whnf) | fail)
        refine Rv.buildS (len := 1) (vs := [pcV p]) ttOk hL tl78 tl97 rfl rfl (by intro u hu; simp only [List.mem_singleton] at hu; subst hu; rfl) (by decide) (by decide) hB fun bp w hL hB => ?_
        replace hL : Sep Tryz.prog B w0 w (.row 97 5 (.slice (some ⟨bp, 0, none⟩) 1 1) 1 (pcC p) :: _) := hL
        conv => whnf
        repeat (first | (refine RunH ?_; intro w hL hB; try clear w) | (refine Both.mk ?_ ?_ <;> conv => whnf) | fail)
        refine Rv.appendS (m := 1) (news := pcC p) ttOk hL tl78 tl97 rfl (by decide) 1 rfl (hL.rowN (i := 0) rfl) (pc_one _) (by simp only [maxLen]; omega) (by omega) hB fun vo w hL hB => ?_
        dsimp only [List.set] at hL
        replace hL := hL.tl
        rw [List.nil_append] at hL
        obtain ⟨ya, yc, rfl⟩ := (show SlN w 5 vo (0 + 1) _ from hL.rowN (i := 0) rfl).shape
        conv => whnf
        repeat (first | (refine RunH ?_; intro w hL hB; try clear w) | (refine Both.mk ?_ ?_ <;> conv => whnf) | fail)
        intro n2 c2 z1 z2
        obtain rfl : n2 = 0 := by simp at z1; omega
        obtain rfl : c2 = 0 := by simp at z2; omega
        conv => whnf
        repeat (first | (refine RunH ?_; intro w hL hB; try clear w) | (refine Both.mk ?_ ?_ <;> conv => whnf) | fail)
        refine Rv.appendS (m := 0) (news := []) ttOk hL tl78 tl97 rfl (by decide) 0 rfl (SlN.nil _ _) (by simp) (by simp only [maxLen]; omega) (by omega) hB fun vo w hL hB => ?_
        dsimp only [List.set] at hL
        rw [List.append_nil] at hL
        obtain ⟨za, zc, rfl⟩ := (show SlN w 5 vo (0 + 1 + 0) _ from hL.rowN (i := 0) rfl).shape
        conv => whnf
        repeat (first | (refine RunH ?_; intro w hL hB; try clear w) | (refine Both.mk ?_ ?_ <;> conv => whnf) | fail)
        refine ⟨(i + 1, za, zc, 1), ⟨rfl, rfl, vint (by push_cast; rfl), trivial⟩, ⟨by dsimp only; omega, by dsimp only; rw [hsplit]; rfl, ?_, hB⟩, (by first | omega | (dsimp only; omega))⟩
        dsimp only
        rw [hsplit]
        have := hL.sub (.cons_cons _ (.cons _ (.cons _ (.refl _))))
        simpa using this
      injection hsn with e1 e2 e3
      subst e1; subst e3
      repeat (first | (refine RunH ?_; intro w hL hB; try clear w) | (refine Both.mk ?_ ?_ <;> conv => whnf) | fail)
      intro n1 c1 q1 q2
      obtain rfl : n1 = j := by omega
      conv => whnf
      repeat (first | (refine RunH ?_; intro w hL hB; try clear w) | (refine Both.mk ?_ ?_ <;> conv => whnf) | fail)
      refine Rv.appendS (m := n1) (news := (O.take n1).flatMap pcC) ttOk hL tl78 tl97 rfl (by decide) 0 rfl (SlN.takeF pcC_len (hL.rowN (i := 2) rfl) (k := n1) hj (c' := c1) (by omega) (by omega)) (pcs_one _) (by simp only [maxLen]; omega) (by omega) hB fun vo w hL hB => ?_
      dsimp only [List.set] at hL
      rw [Nat.zero_add, List.nil_append] at hL
      obtain ⟨xa, xc, rfl⟩ := (show SlN w 5 vo n1 _ from hL.rowN (i := 0) rfl).shape
      conv => whnf
      repeat (first | (refine RunH ?_; intro w hL hB; try clear w) | (refine Both.mk ?_ ?_ <;> conv => whnf) | fail)
      refine Rv.buildS (len := 1) (vs := [pcV p]) ttOk hL tl78 tl97 rfl rfl (by intro u hu; simp only [List.mem_singleton] at hu; subst hu; rfl) (by decide) (by decide) hB fun bp w hL hB => ?_
      replace hL : Sep Tryz.prog B w0 w (.row 97 5 (.slice (some ⟨bp, 0, none⟩) 1 1) 1 (pcC p) :: _) := hL
      conv => whnf
      repeat (first | (refine RunH ?_; intro w hL hB; try clear w) | (refine Both.mk ?_ ?_ <;> conv => whnf) | fail)
      refine Rv.appendS (m := 1) (news := pcC p) ttOk hL tl78 tl97 rfl (by decide) 1 rfl (hL.rowN (i := 0) rfl) (pc_one _) (by simp only [maxLen]; omega) (by omega) hB fun vo w hL hB => ?_
      dsimp only [List.set] at hL
      replace hL := hL.tl
      obtain ⟨ya, yc, rfl⟩ := (show SlN w 5 vo (n1 + 1) _ from hL.rowN (i := 0) rfl).shape
      conv => whnf
      repeat (first | (refine RunH ?_; intro w hL hB; try clear w) | (refine Both.mk ?_ ?_ <;> conv => whnf) | fail)
      intro o2 n2 c2 z1 z2 z3 z4
      obtain rfl : n2 = (O.drop n1).length := by rw [List.length_drop]; omega
      conv => whnf
      repeat (first | (refine RunH ?_; intro w hL hB; try clear w) | (refine Both.mk ?_ ?_ <;> conv => whnf) | fail)
      refine Rv.appendS (m := (O.drop n1).length) (news := (O.drop n1).flatMap pcC) ttOk hL tl78 tl97 rfl (by decide) 0 rfl (by
        have := SlN.dropF pcC_len (hL.rowN (i := 2) rfl) (k := n1) hj (o' := o2) (n' := (O.drop n1).length) (c' := c2) (fun h => by have := z1 (by omega); omega) (by rw [List.length_drop]) (by omega)
        rwa [← List.length_drop] at this) (pcs_one _) (by simp only [maxLen]; omega) (by omega) hB fun vo w hL hB => ?_
      dsimp only [List.set] at hL
      obtain ⟨za, zc, rfl⟩ := (show SlN w 5 vo (n1 + 1 + (O.drop n1).length) _ from hL.rowN (i := 0) rfl).shape
      conv => whnf
      repeat (first | (refine RunH ?_; intro w hL hB; try clear w) | (refine Both.mk ?_ ?_ <;> conv => whnf) | fail)
      refine ⟨(i + 1, za, zc, n1 + 1 + (O.drop n1).length), ⟨rfl, rfl, vint (by push_cast; rfl), trivial⟩, ⟨by dsimp only; omega, ?_, ?_, hB⟩, (by first | omega | (dsimp only; omega))⟩
      · dsimp only
        rw [hsplit, List.length_append, hAl, List.length_cons]; omega
      · dsimp only
        rw [hsplit]
        have := hL.sub (.cons_cons _ (.cons _ (.cons _ (.refl _))))
        rw [List.flatMap_append, List.flatMap_cons, ← List.append_assoc]
        exact this
  · obtain rfl : i = rL.length := by omega
    rw [List.take_length] at hL hon
    subst hon
    repeat (first | (refine RunH ?_; intro w hL hB; try clear w) | (refine Both.mk ?_ ?_ <;> conv => whnf) | fail)
    exact hB
end
end Go.Proofs.YtpkealgeigpjpaaGreatDoor
namespace Go.Proofs.YtpkealgeigpjpaaGreatDoor
open Go.RowKit Go.Lib
set_option linter.unusedVariables false
set_option linter.unusedSimpArgs false
set_option maxRecDepth 100000
theorem mkB_inj {a b : List UInt8} : mkB a = mkB b ↔ a = b := by
  constructor
  · intro h
    have := congrArg ByteArray.data h
    simpa [mkB] using this
  · rintro rfl; rfl
theorem SrtP_le {P : Prop} : True := trivial
section
variable {B k x room id : Nat} {ra : Option Addr} {rc : Nat} {ps rL : List Pc} {R : List Fl} {F : List Res} {w0 w : World}
set_option maxHeartbeats 8000000 in
theorem ropen_fn {nm : ByteArray} (hid : id ≤ 99999999) (hnm : vnmG id = nm) (hR : RkS B w0 w k room R F) :
    Fn Tryz.prog 35 #[ptr k, .int .i64 (id : Int)] w fun r w' =>
      (openE R nm id ≠ 0 → r = .tuple #[.pointer none, .int .i64 (openE R nm id : Nat)] ∧ RkS B w0 w' k room R F) ∧
      (openE R nm id = 0 → ∃ x ra rc rL o, ScanL (datS R nm) 8 [] rL o ∧ OkP rL ∧ rL.length ≤ (datS R nm).length ∧ r = .tuple #[ptr x, .int .i64 0] ∧ RkS B w0 w' k room (cutAt R nm o) (rvRes x k id ra rc rL F)) := by
  have hs := vnmG_size hid
  have hname := nameR_fn id hid
  rw [hnm] at hs hname
  have h8 := vhd_len id
  have hhd := vheadR_fn id hid
  have hszb := szRk_le hR nm
  have hE : openE R nm id = match getS R nm with | none => 7 | some f => if 8 ≤ f.d.length ∧ f.d.take 8 = vhd id then 0 else 3 := rfl
  have hdl := datS_len R nm
  have hdat : datS R nm = match getS R nm with | some f => f.d | none => [] := rfl
  generalize vhd id = G at *
  generalize openE R nm id = E at *
  obtain ⟨dL, hL, hB, close⟩ := hR.open
  clear hR
  refine Fn.mk Tryz.func35 rfl (by kernel_rfl) Tryz.ntmps35 rfl (by rw [Tryz.results35]) ?_
  repeat (first | (refine RunH ?_; intro w hL hB; try clear w) | (refine Both.mk ?_ ?_ <;> conv => whnf) | fail)
  refine (hname _).mono fun r w ⟨hr, hw⟩ => ?_
  subst hr
  replace hL := hL.call hB (Turns.of_below hw)
  replace hB := Nat.le_trans hB hw.size
  conv => whnf
  repeat (first | (refine RunH ?_; intro w hL hB; try clear w) | (refine Both.mk ?_ ?_ <;> conv => whnf) | fail)
  have hne : ¬ nm = ⟨#[]⟩ := fun e => by rw [e] at hs; exact absurd hs (by decide)
  refine Br.no (decide_eq_false hne) ?_
  conv => whnf
  repeat (first | (refine RunH ?_; intro w hL hB; try clear w) | (refine Both.mk ?_ ?_ <;> conv => whnf) | fail)
  refine (readR4_fn nm (close (F' := F) hL hB)).mono fun r w hD => ?_
  clear close hL hB
  cases hg : getS R nm with
  | none =>
    rw [hg] at hD hE
    dsimp only at hE
    obtain ⟨hr, hD⟩ := hD
    subst hr
    obtain ⟨dL, hL, hB, close⟩ := hD.open
    conv => whnf
    repeat (first | (refine RunH ?_; intro w hL hB; try clear w) | (refine Both.mk ?_ ?_ <;> conv => whnf) | fail)
    exact ⟨fun _ => ⟨by rw [hE]; rfl, close (F' := F) hL hB⟩, fun h => by rw [hE] at h; cases h⟩
  | some f =>
    rw [hg] at hD hE hdat
    dsimp only at hE hdat
    rw [hdat] at hdl
    rw [hdat]
    obtain ⟨u, hr, hD⟩ := hD
    subst hr
    obtain ⟨dL, hL, hB, close⟩ := hD.open
    obtain ⟨ua, uc, rfl⟩ := (show SlN w 1 u _ _ from hL.rowN (i := 0) rfl).shape
    clear hD
    have hfl : f.d.length ≤ 1073741824 := by omega
    generalize hb : f.d = b at *
    conv => whnf
    repeat (first | (refine RunH ?_; intro w hL hB; try clear w) | (refine Both.mk ?_ ?_ <;> conv => whnf) | fail)
    refine (hhd _).mono fun r w ⟨ho, hw⟩ => ?_
    replace hL := hL.addRow hB hw ho
    replace hB := Nat.le_trans hB hw.size
    clear ho hw
    obtain ⟨ga, gc, rfl⟩ := (show SlN w 1 r _ _ from hL.rowN (i := 0) rfl).shape
    conv => whnf
    repeat (first | (refine RunH ?_; intro w hL hB; try clear w) | (refine Both.mk ?_ ?_ <;> conv => whnf) | fail)
    by_cases hl8 : b.length < 8
    · rw [if_neg (by omega)] at hE
      repeat (first | (refine RunK ?_; intro w hL hB; try clear w) | (refine V.treeA ttOk hL (.q 0 (.q 1 (.q 2 (.q 3 (.q 4 (.q 5 (.q 6 (.q 7 (.q 8 (.q 9 (.q 10 .nil))))))))))) mixed (by decide +kernel) ?_; replace hL := hL.drew; conv => whnf) | (refine V.tailA ttOk mixed (by decide +kernel) ?_; replace hL := hL.drew; conv => whnf) | (refine Both.mk ?_ ?_ <;> conv => whnf) | fail)
      exact ⟨fun _ => ⟨by rw [hE]; rfl, close (F' := F) hL.tl.tl hB⟩, fun h => by rw [hE] at h; cases h⟩
    obtain ⟨bb, o, rfl, _⟩ := SlN.addr (show SlN w 1 (.slice ua b.length uc) b.length _ from hL.rowN (i := 1) rfl) (by omega)
    have hcap := (show Sl w (.slice (some ⟨bb, o, none⟩) b.length uc) (bv b) from hL.row (i := 1) rfl).len
    simp only [bv_length] at hcap
    repeat (first | (refine RunK ?_; intro w hL hB; try clear w) | (refine V.treeA ttOk hL (.q 0 (.q 1 (.q 2 (.q 3 (.q 4 (.q 5 (.q 6 (.q 7 (.q 8 (.q 9 (.q 10 .nil))))))))))) mixed (by decide +kernel) ?_; replace hL := hL.drew; conv => whnf) | (refine V.tailA ttOk mixed (by decide +kernel) ?_; replace hL := hL.drew; conv => whnf) | (refine Both.mk ?_ ?_ <;> conv => whnf) | fail)
    intro n1 c1 z1 z2
    obtain rfl : n1 = 8 := by omega
    conv => whnf
    repeat (first | (refine RunH ?_; intro w hL hB; try clear w) | (refine Both.mk ?_ ?_ <;> conv => whnf) | fail)
    refine Rq.toStr ttOk tl47 tl5 tl9 (l := b.take 8) (fun x0 hx0 => by
      have h1 := (show Sl x0 (.slice (some ⟨bb, o, none⟩) b.length uc) (bv b) from hx0.row (i := 1) rfl).take (k := 8) (by rw [bv_length]; omega) (c' := c1) (by omega) (by omega)
      rwa [← bv_take] at h1) ?_
    conv => whnf
    repeat (first | (refine RunH ?_; intro w hL hB; try clear w) | (refine Both.mk ?_ ?_ <;> conv => whnf) | fail)
    refine Rq.toStr ttOk tl47 tl5 tl9 (l := G) (fun x0 hx0 => hx0.row (i := 0) rfl) ?_
    conv => whnf
    repeat (first | (refine RunH ?_; intro w hL hB; try clear w) | (refine Both.mk ?_ ?_ <;> conv => whnf) | fail)
    by_cases hG : b.take 8 = G
    case neg =>
      rw [if_neg (fun h => hG h.2)] at hE
      repeat (first | (refine RunH ?_; intro w hL hB; try clear w) | (refine Both.mk ?_ ?_ <;> conv => whnf) | (refine Br.no (decide_eq_false fun h => hG (mkB_inj.1 h)) ?_; conv => whnf) | fail)
      exact ⟨fun _ => ⟨by rw [hE]; rfl, close (F' := F) hL.tl.tl hB⟩, fun h => by rw [hE] at h; cases h⟩
    rw [if_pos ⟨by omega, hG⟩] at hE
    repeat (first | (refine RunH ?_; intro w hL hB; try clear w) | (refine Both.mk ?_ ?_ <;> conv => whnf) | (refine Br.yes (decide_eq_true (mkB_inj.2 hG)) ?_; conv => whnf) | (refine Nw.sep hL hB (fun x w hL hB hx => ?_); conv => whnf) | fail)
    clear hcap
    have hcap := (show Sl _ (.slice (some ⟨bb, o, none⟩) b.length uc) (bv b) from hL.row (i := 2) rfl).len
    simp only [bv_length] at hcap
    have hLn := (hL.sub (.cons_cons _ (.cons _ (.refl _)))).addRow hB (Below.refl _ _) (e := 97) (sz := 5) (v := .slice none 0 0) (n := 0) (xs := []) ⟨rfl, .inl ⟨rfl, rfl⟩⟩
    replace hLn := hLn.perm (.swap _ _ _)
    refine V.loop (α := Nat × List Pc × Option Addr × Nat) (fun z => [(0, ptr k), (6, .string nm), (7, .slice (some ⟨bb, o, none⟩) b.length uc), (10, ptr x), (11, .int .i64 (z.1 : Int))])
      (fun z w' => 8 ≤ z.1 ∧ z.1 ≤ b.length ∧ OkP z.2.1 ∧ z.2.1.length ≤ z.1 ∧ (∀ ps' o, ScanL b z.1 z.2.1 ps' o → ScanL b 8 [] ps' o) ∧ B ≤ w'.heap.size ∧
        Sep Tryz.prog B w0 w' (.blk x [ptr k, .int .i64 (id : Int), .slice z.2.2.1 z.2.1.length z.2.2.2] 80 :: .row 97 5 (.slice z.2.2.1 z.2.1.length z.2.2.2) z.2.1.length (z.2.1.flatMap pcC) :: .row 5 1 (.slice (some ⟨bb, o, none⟩) b.length uc) b.length (bv b) :: (F ++ dL)))
      (fun z => b.length - z.1) (8, [], none, 0) ⟨rfl, rfl, rfl, rfl, rfl, trivial⟩ ⟨Nat.le_refl _, by dsimp only; omega, (fun p hp => by cases hp), Nat.zero_le _, (fun _ _ h => h), hB, hLn⟩ ?_
    clear hL hB hLn
    rintro ⟨q, rL, ra, rc⟩ w ⟨hk8, hkl, hok, hlen, hsc, hB, hL⟩
    dsimp only at hk8 hkl hok hlen hsc hL ⊢
    by_cases hlt : q < b.length
    case neg =>
      obtain rfl : q = b.length := by omega
      repeat (first | (refine RunH ?_; intro w hL hB; try clear w) | (refine Both.mk ?_ ?_ <;> conv => whnf) | fail)
      exact ⟨fun h => absurd hE h, fun _ => ⟨x, ra, rc, rL, none, hsc _ _ (.over _ _ (Nat.le_refl _)), hok, hlen, rfl, close (F' := _ :: _ :: F) (hL.sub (.cons_cons _ (.cons_cons _ (.cons _ (.refl _))))) hB⟩⟩
    repeat (first | (refine RunH ?_; intro w hL hB; try clear w) | (refine Both.mk ?_ ?_ <;> conv => whnf) | fail)
    intro o1 n1 c1 z1 z2 z3 z4
    conv => whnf
    repeat (first | (refine RunH ?_; intro w hL hB; try clear w) | (refine Both.mk ?_ ?_ <;> conv => whnf) | fail)
    have hsl := hL.row (i := 2) rfl
    refine (decNR_fn _ (b.drop q) _ (by rw [bv_drop]; exact hsl.drop (k := q) (by rw [bv_length]; omega) (by omega) (by omega) (by omega))).mono fun r w ⟨hr, hw⟩ => ?_
    have hkey := dKey_lt (b.drop q)
    have hcook : dCook (b.drop q) < 4294967296 := win4_lt _ 12
    replace hL := hL.call hB (Turns.of_below hw)
    replace hB := Nat.le_trans hB hw.size
    have hr' : ((dE (b.drop q) = 2 ∨ dE (b.drop q) = 3) ∧ r = .tuple #[zeroN, .int .i64 0, .int .i64 (dE (b.drop q) : Nat)]) ∨ (∃ (ua : Option Addr) (un uc : Nat) (e : Nat), (e = 0 ∨ e = 4) ∧ dE (b.drop q) = e ∧ r = .tuple #[.agg (ndC (dKey (b.drop q)) (dCook (b.drop q)) (dDead (b.drop q)) (.slice ua un uc)).toArray, .int .i64 (szN (dSize (b.drop q)) : Nat), .int .i64 (e : Nat)]) := by
      rcases hr with h | ⟨h1, h2⟩ | ⟨h1, u, h2, ho⟩
      · exact .inl h
      · exact .inr ⟨_, _, _, 4, .inr rfl, h1, h2⟩
      · obtain ⟨xa, xc, rfl⟩ := (SlN.of_own ho).shape
        exact .inr ⟨_, _, _, 0, .inl rfl, h1, h2⟩
    clear hr hsl
    rcases hr' with ⟨hE2, rfl⟩ | ⟨ya, yn, yc, e, he, hE4', rfl⟩
    · rw [zeroN]
      have hcut := ScanL.cut (b := b) q rL hlt hE2
      rcases hE2 with h2 | h2 <;> (
        rw [h2]
        conv => whnf
        (refine Nw.sep hL hB (fun t12 w hL hB ht12 => ?_); conv => whnf)
        repeat (first | (refine RunH ?_; intro w hL hB; try clear w) | (refine Both.mk ?_ ?_ <;> conv => whnf) | fail)
        replace hL := hL.tl
        refine (cutR_fn nm (q : Int) (close (F' := _ :: _ :: _ :: F) hL hB)).mono fun r w ⟨hr, hD⟩ => ?_
        clear close hL hB
        obtain ⟨dL2, hL, hB, close⟩ := hD.open
        conv => whnf
        repeat (first | (refine RunH ?_; intro w hL hB; try clear w) | (refine Both.mk ?_ ?_ <;> conv => whnf) | fail)
        exact ⟨fun h => absurd hE h, fun _ => ⟨x, ra, rc, rL, some q, hsc _ _ hcut, hok, by omega, rfl, close (F' := _ :: _ :: F) (hL.sub (.cons_cons _ (.cons_cons _ (.cons _ (.refl _))))) hB⟩⟩)
    have hE4 : dE (b.drop q) = 4 ∨ dE (b.drop q) = 0 := by omega
    have hds := dSize_le hE4
    have hsn := szN_le (dSize (b.drop q))
    have hdl2 : (b.drop q).length = b.length - q := List.length_drop
    have hokn : OkP (rL ++ [⟨dKey (b.drop q), q, szN (dSize (b.drop q)), dCook (b.drop q), dDead (b.drop q)⟩]) := fun p hp => by
      rcases List.mem_append.1 hp with hp | hp
      · exact hok p hp
      · simp only [List.mem_singleton] at hp
        subst hp
        exact ⟨hkey, hcook, by dsimp only; omega, by dsimp only; omega, by dsimp only; omega⟩
    have hlen1 : (rL ++ [(⟨dKey (b.drop q), q, szN (dSize (b.drop q)), dCook (b.drop q), dDead (b.drop q)⟩ : Pc)]).length ≤ q + szN (dSize (b.drop q)) := by simp only [List.length_append, List.length_cons, List.length_nil]; omega
    have hfin : ∀ {w : World} {vb : Option Addr} {vd : Nat}, Sep Tryz.prog B w0 w (.blk x [ptr k, .int .i64 (id : Int), .slice vb (rL.length + 1) vd] 80 :: .row 97 5 (.slice vb (rL.length + 1) vd) (rL.length + 1) (rL.flatMap pcC ++ pcC ⟨dKey (b.drop q), q, szN (dSize (b.drop q)), dCook (b.drop q), dDead (b.drop q)⟩) :: .row 5 1 (.slice (some ⟨bb, o, none⟩) b.length uc) b.length (bv b) :: (F ++ dL)) → Sep Tryz.prog B w0 w (.blk x [ptr k, .int .i64 (id : Int), .slice vb (rL ++ [(⟨dKey (b.drop q), q, szN (dSize (b.drop q)), dCook (b.drop q), dDead (b.drop q)⟩ : Pc)]).length vd] 80 :: .row 97 5 (.slice vb (rL ++ [(⟨dKey (b.drop q), q, szN (dSize (b.drop q)), dCook (b.drop q), dDead (b.drop q)⟩ : Pc)]).length vd) (rL ++ [(⟨dKey (b.drop q), q, szN (dSize (b.drop q)), dCook (b.drop q), dDead (b.drop q)⟩ : Pc)]).length ((rL ++ [(⟨dKey (b.drop q), q, szN (dSize (b.drop q)), dCook (b.drop q), dDead (b.drop q)⟩ : Pc)]).flatMap pcC) :: .row 5 1 (.slice (some ⟨bb, o, none⟩) b.length uc) b.length (bv b) :: (F ++ dL)) := fun h => by
      rw [List.flatMap_append, List.length_append]
      simpa using h
    rw [ndC]
    rcases he with rfl | rfl <;> (
      conv => whnf
      (refine Nw.sep hL hB (fun t12 w hL hB ht12 => ?_); conv => whnf)
      repeat (first | (refine RunK ?_; intro w hL hB; try clear w) | (refine V.tree ttOk (fun x0 => Sep Tryz.prog _ w0 x0 (.blk t12 [.int .u64 (dKey (b.drop q) : Int), .int .u32 (dCook (b.drop q) : Int), .bool (dDead (b.drop q)), .slice ya yn yc] 49 :: .row 5 1 (.slice (some ⟨bb, o, none⟩) b.length uc) b.length (bv b) :: (F ++ dL))) (.q 0 (.q 1 (.q 2 (.q 3 (.q 5 (.q 6 (.q 7 (.q 8 (.q 9 (.q 10 (.q 11 (.q 12 (.q 13 (.alt 4 (.alt 14 (.alt 15 (.q 16 (.q 17 (.alt 18 .nil .stop))) .stop) .stop) (.alt 14 (.alt 4 (.alt 15 (.q 16 (.q 17 (.alt 18 .nil .stop))) .stop) .stop) .stop))))))))))))))) mixed (by decide +kernel) (hL.drew.sub (.cons_cons _ (.cons _ (.cons _ (.refl _))))) ?_; replace hL := hL.drew; conv => whnf) | (refine V.tailA ttOk mixed (by decide +kernel) ?_; replace hL := hL.drew; conv => whnf) | (refine Both.mk ?_ ?_ <;> conv => whnf) | fail)
      refine Rv.buildS (len := 1) (vs := [pcV ⟨dKey (b.drop q), q, szN (dSize (b.drop q)), dCook (b.drop q), dDead (b.drop q)⟩]) ttOk hL tl78 tl97 rfl rfl (by intro u hu; simp only [List.mem_singleton] at hu; subst hu; rfl) (by decide) (by decide) hB fun bp w hL hB => ?_
      replace hL : Sep Tryz.prog B w0 w (.row 97 5 (.slice (some ⟨bp, 0, none⟩) 1 1) 1 (pcC ⟨dKey (b.drop q), q, szN (dSize (b.drop q)), dCook (b.drop q), dDead (b.drop q)⟩) :: _) := hL
      conv => whnf
      repeat (first | (refine RunH ?_; intro w hL hB; try clear w) | (refine Both.mk ?_ ?_ <;> conv => whnf) | fail)
      refine Rv.appendS (m := 1) ttOk hL tl78 tl97 rfl (by decide) 3 rfl (hL.rowN (i := 0) rfl) (pc_one _) (by simp only [maxLen]; omega) (by omega) hB fun vo w hL hB => ?_
      dsimp only [List.set] at hL
      obtain ⟨vb, vd, rfl⟩ := (show SlN w 5 vo (rL.length + 1) _ from hL.rowN (i := 3) rfl).shape
      conv => whnf
      repeat (first | (refine RunH ?_; intro w hL hB; try clear w) | (refine Both.mk ?_ ?_ <;> conv => whnf) | fail)
      exact ⟨(q + szN (dSize (b.drop q)), rL ++ [_], vb, vd), ⟨rfl, rfl, rfl, rfl, vint (by push_cast; rfl), trivial⟩, ⟨by dsimp only; omega, by dsimp only; omega, hokn, hlen1, fun ps' o h => hsc _ _ (.step _ _ _ _ hlt hE4 h), hB, hfin (hL.sub (.cons _ (.cons _ (.cons_cons _ (.cons_cons _ (.refl _))))))⟩, by dsimp only; omega⟩
      repeat (first | (refine RunH ?_; intro w hL hB; try clear w) | (refine Both.mk ?_ ?_ <;> conv => whnf) | fail)
      refine Rv.buildS (len := 1) (vs := [pcV ⟨dKey (b.drop q), q, szN (dSize (b.drop q)), dCook (b.drop q), dDead (b.drop q)⟩]) ttOk hL tl78 tl97 rfl rfl (by intro u hu; simp only [List.mem_singleton] at hu; subst hu; rfl) (by decide) (by decide) hB fun bp w hL hB => ?_
      replace hL : Sep Tryz.prog B w0 w (.row 97 5 (.slice (some ⟨bp, 0, none⟩) 1 1) 1 (pcC ⟨dKey (b.drop q), q, szN (dSize (b.drop q)), dCook (b.drop q), dDead (b.drop q)⟩) :: _) := hL
      conv => whnf
      repeat (first | (refine RunH ?_; intro w hL hB; try clear w) | (refine Both.mk ?_ ?_ <;> conv => whnf) | fail)
      refine Rv.appendS (m := 1) ttOk hL tl78 tl97 rfl (by decide) 3 rfl (hL.rowN (i := 0) rfl) (pc_one _) (by simp only [maxLen]; omega) (by omega) hB fun vo w hL hB => ?_
      dsimp only [List.set] at hL
      obtain ⟨vb, vd, rfl⟩ := (show SlN w 5 vo (rL.length + 1) _ from hL.rowN (i := 3) rfl).shape
      conv => whnf
      repeat (first | (refine RunH ?_; intro w hL hB; try clear w) | (refine Both.mk ?_ ?_ <;> conv => whnf) | fail)
      exact ⟨(q + szN (dSize (b.drop q)), rL ++ [_], vb, vd), ⟨rfl, rfl, rfl, rfl, vint (by push_cast; rfl), trivial⟩, ⟨by dsimp only; omega, by dsimp only; omega, hokn, hlen1, fun ps' o h => hsc _ _ (.step _ _ _ _ hlt hE4 h), hB, hfin (hL.sub (.cons _ (.cons _ (.cons_cons _ (.cons_cons _ (.refl _))))))⟩, by dsimp only; omega⟩)
end
end Go.Proofs.YtpkealgeigpjpaaGreatDoor
