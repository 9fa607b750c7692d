/- Plan: PlanSane. Nothing is claimed here. -/
import Derived.Test.YthifnfoppamkiaaOp
namespace Go.Proofs.Ythifnfoppamkiaa
open Go.RowKit
set_option linter.unusedVariables false
set_option linter.unusedSimpArgs false
set_option maxRecDepth 100000

theorem nextS_sane2 {l : List PV} {live : List Bool} {sizes : List Int} {c : PC} {a : PA} (hap : ∀ v ∈ l, apN v.ns) (h : nextS l live sizes c = some a) :
    ∃ (k : Nat) (hk : k < l.length), l[k].ns ≠ [] ∧ a.vol = l[k].id ∧ SaneS live l[k] a := by
  obtain ⟨hc, r, hr, k, hk, b, h0, hb, rfl⟩ := nextS_some h
  refine ⟨k, hk, h0, rfl, SaneS.vol ?_ _⟩
  have hv := hap l[k] (List.getElem_mem hk)
  unfold okC at hc
  simp only [rulesS, List.mem_cons, List.not_mem_nil, or_false] at hr
  rcases hr with rfl | rfl | rfl | rfl | rfl
  · exact lackS_sane hv hb
  · exact brokeS_sane hv h0 hb
  · exact fullS_sane hv h0 hb
  · exact stripS_sane (by omega) h0 hb
  · exact unevenS_sane hv h0 hb
theorem SlN.addrV {w : World} {sz : Nat} {v : Value} {m : Nat} {xs : List Value} (h : SlN w sz v m xs) (hx : 0 < m) (hsz : 0 < sz := by decide) : ∃ b o c, v = .slice (some ⟨b, o, none⟩) m c ∧ Row w b o xs := by
  obtain ⟨a, c, rfl⟩ := h.shape
  obtain ⟨b, o, rfl, hr⟩ := h.addr hx hsz
  exact ⟨b, o, c, rfl, hr⟩
/-- what the law asks of a volume -/
def okV (i : Nat) (ns : List Int) (id : Int) : Prop := apN ns ∧ (∀ x ∈ ns, -1 ≤ x ∧ x < 64) ∧ (ns ≠ [] → id = (i : Int) + 1)
theorem okV.nil (i : Nat) (id : Int) : okV i [] id := ⟨List.Pairwise.nil, by simp, by simp⟩
theorem apN.snoc {ns : List Int} {x : Int} (h : apN ns) (hx : ∀ y ∈ ns, y ≠ x ∨ x = -1) : apN (ns ++ [x]) := by
  unfold apN
  rw [List.pairwise_append]
  exact ⟨h, List.pairwise_singleton _ _, fun a ha b hb => by rw [List.mem_singleton] at hb; subst hb; exact hx a ha⟩
theorem okV.snoc {i : Nat} {ns : List Int} {id x : Int} (h : okV i ns id) (hx : ∀ y ∈ ns, y ≠ x ∨ x = -1) (h1 : -1 ≤ x) (h2 : x < 64) (h3 : id = (i : Int) + 1) : okV i (ns ++ [x]) id :=
  ⟨h.1.snoc hx, fun y hy => by
    rcases List.mem_append.1 hy with hy | hy
    · exact h.2.1 y hy
    · rw [List.mem_singleton] at hy; subst hy; exact ⟨h1, h2⟩, fun _ => h3⟩
set_option maxHeartbeats 16000000 in
theorem planSane_fn (v lv sv : Value) (ps : List (PV × Value)) (live : List Bool) (ss : List Int) (c : PC) (w0 : World) (h : SlN w0 6 v ps.length (ps.flatMap pvC)) (hn : ∀ p ∈ ps, SlE w0 p.2 (numC p.1.ns)) (hl : SlE w0 lv (boolC live)) (hs : SlE w0 sv (numC ss)) (hcm : c.cp ≤ 9223372036854775807) :
    Fn Try.prog 4 #[v, lv, sv, cfV c] w0 fun r w' => r = .bool true ∧ Below w0.heap.size w0 w' := by
  obtain ⟨va, vc, rfl⟩ := h.shape
  have hL := Sep.start Try.prog w0
  have hB := Nat.le_refl w0.heap.size
  unfold cfV
  refine Fn.mk Try.func4 rfl (by kernel_rfl) Try.ntmps4 rfl (by rw [Try.results4]) ?_
  repeat (first | (refine RunH ?_; intro w hL hB; try clear w) | (refine Both.mk ?_ ?_ <;> conv => whnf) | fail)
  (refine Nw.sep hL hB (fun b7 w hL hB hb7 => ?_); conv => whnf)
  repeat (first | (refine RunH ?_; intro w hL hB; try clear w) | (refine Both.mk ?_ ?_ <;> conv => whnf) | fail)
  refine (great_fn _ lv ps live _ (h.below hL.below) (fun p hp => (hn p hp).below hL.below) (hl.below hL.below)).mono fun r w hr => ?_
  obtain ⟨rfl, hw⟩ := hr
  replace hL := hL.call hB (Turns.of_below hw)
  replace hB := Nat.le_trans hB hw.size
  cases hg : greatB (pvs ps) live
  case true =>
    conv => whnf
    repeat (first | (refine RunH ?_; intro w hL hB; try clear w) | (refine Both.mk ?_ ?_ <;> conv => whnf) | (refine (known_fn _).mono fun r w hr => ?_; obtain ⟨hr, hw⟩ := hr; subst hr; replace hL := hL.call hB (Turns.of_below hw); replace hB := Nat.le_trans hB hw.size; conv => whnf) | fail)
    exact ⟨rfl, hL.below⟩
  obtain ⟨hV, hll⟩ := VolS.of h hn hg
  have hfew := hV.few
  conv => whnf
  repeat (first | (refine RunH ?_; intro w hL hB; try clear w) | (refine Both.mk ?_ ?_ <;> conv => whnf) | fail)
  refine V.loop (α := Nat) (fun z => [(0, .slice va ps.length vc), (1, lv), (2, sv), (7, .pointer (some ⟨b7, 0, none⟩)), (9, .int .i64 z)])
    (fun z w' => z ≤ ps.length ∧ w0.heap.size ≤ w'.heap.size ∧ (∀ (i : Nat) (p : PV × Value), i < z → ps[i]? = some p → okV i p.1.ns p.1.id) ∧ Sep Try.prog w0.heap.size w0 w' [.blk b7 (cfC c) 26]) (fun z => ps.length - z) 0 ⟨rfl, rfl, rfl, rfl, rfl, trivial⟩ ⟨Nat.zero_le _, hB, by intro i p hi; omega, hL⟩ ?_
  clear hL hB
  rintro z w ⟨hz, hB, hok, hL⟩
  repeat (first | (refine RunH ?_; intro w hL hB; try clear w) | (refine Both.mk ?_ ?_ <;> conv => whnf) | fail)
  refine Br.dec (fun hlt => ?_) (fun hlt => ?_)
  · have hke : z < ps.length := by omega
    have hge : ps[z]? = some ps[z] := List.getElem?_eq_getElem hke
    have hmem := List.getElem_mem hke
    generalize hev : ps[z] = pv at *
    obtain ⟨p, nv⟩ := pv
    have hns := hn _ hmem
    have hten := hV.ten _ hmem
    dsimp only at hns hten
    obtain ⟨na, nc, hnv⟩ := hns.shape
    rw [numC_len] at hnv
    subst hnv
    obtain ⟨b, o, rfl, _⟩ := h.addr (by omega)
    repeat (first | (refine RunH ?_; intro w hL hB; try clear w) | (refine Both.mk ?_ ?_ <;> conv => whnf) | fail)
    refine V.loop (α := Nat) (fun k => [(0, .slice (some ⟨b, o, none⟩) ps.length vc), (1, lv), (2, sv), (7, .pointer (some ⟨b7, 0, none⟩)), (9, .int .i64 z), (10, .int .i64 k)])
      (fun k w' => k ≤ p.ns.length ∧ w0.heap.size ≤ w'.heap.size ∧ okV z (p.ns.take k) p.id ∧ Sep Try.prog w0.heap.size w0 w' [.blk b7 (cfC c) 26]) (fun k => p.ns.length - k) 0 ⟨rfl, rfl, rfl, rfl, rfl, rfl, trivial⟩ ⟨Nat.zero_le _, hB, okV.nil _ _, hL⟩ ?_
    clear hL hB
    rintro k w ⟨hk, hB, hokk, hL⟩
    have hr := (h.below hL.below).rowOf
    repeat (first | (refine RunH ?_; intro w hL hB; try clear w) | (refine Both.mk ?_ ?_ <;> conv => whnf) | fail)
    intro o1 ho1
    conv => whnf
    repeat (first | (refine RunH ?_; intro w hL hB; try clear w) | (refine Both.mk ?_ ?_ <;> conv => whnf) | fail)
    refine Ld.rowF ttOk pvC_len 3 hr rfl rfl hge rfl (by omega) ?_
    conv => whnf
    repeat (first | (refine RunH ?_; intro w hL hB; try clear w) | (refine Both.mk ?_ ?_ <;> conv => whnf) | fail)
    refine Br.dec (fun hlt => ?_) (fun hlt => ?_)
    · have hkk : k < p.ns.length := by omega
      have hgk : p.ns[k]? = some p.ns[k] := List.getElem?_eq_getElem hkk
      have hts := List.take_succ_eq_append_getElem hkk
      obtain ⟨bn, on, rfl, _⟩ := hns.sl.toN.addr (by omega)
      generalize p.ns[k] = x at hgk hts
      repeat (first | (refine RunH ?_; intro w hL hB; try clear w) | (refine Both.mk ?_ ?_ <;> conv => whnf) | fail)
      refine V.loop (α := Nat) (fun j => [(0, .slice (some ⟨b, o, none⟩) ps.length vc), (1, lv), (2, sv), (7, .pointer (some ⟨b7, 0, none⟩)), (9, .int .i64 z), (10, .int .i64 k), (11, .int .i64 j)])
        (fun j w' => j ≤ k ∧ w0.heap.size ≤ w'.heap.size ∧ (∀ y ∈ p.ns.take j, y ≠ x ∨ x = -1) ∧ Sep Try.prog w0.heap.size w0 w' [.blk b7 (cfC c) 26]) (fun j => k - j) 0 ⟨rfl, rfl, rfl, rfl, rfl, rfl, rfl, trivial⟩ ⟨Nat.zero_le _, hB, by simp, hL⟩ ?_
      clear hL hB hr
      rintro j w ⟨hj, hB, hjx, hL⟩
      have hr := (h.below hL.below).rowOf
      have hrn := (hns.below hL.below).sl.toN.rowOf
      repeat (first | (refine RunH ?_; intro w hL hB; try clear w) | (refine Both.mk ?_ ?_ <;> conv => whnf) | fail)
      refine Br.dec (fun hlt => ?_) (fun hlt => ?_)
      · have hgj : p.ns[j]? = some p.ns[j] := List.getElem?_eq_getElem (by omega)
        have htj := List.take_succ_eq_append_getElem (show j < p.ns.length by omega)
        generalize p.ns[j] = y at hgj htj
        repeat' (first | (refine RunK ?_; intro w hL hB; try clear w) | (refine V.quiet ttOk (fun x => x = World.drew _) mixed (by kernel_rfl) rfl ?_; replace hL := hL.drew; conv => whnf) | (refine V.tailA ttOk mixed (by decide +kernel) ?_; replace hL := hL.drew; conv => whnf) | (refine Br.dec (fun hbr => ?_) (fun hbr => ?_) <;> conv => whnf) | (refine Br.mk (fun hbr => ?_) (fun hbr => ?_) <;> conv => whnf) | (refine Both.mk ?_ ?_ <;> conv => whnf) | (intro w9 hw9; subst hw9; conv => whnf) | (intro o9 ho9; first | (refine (fun (hq : o + z * 6 = o9) => ?_) (by omega); subst hq) | (refine (fun (hq : on + j = o9) => ?_) (by omega); subst hq) | (refine (fun (hq : on + k = o9) => ?_) (by omega); subst hq) | fail; conv => whnf) | (refine Lq.of_row (Ld.rowF ttOk pvC_len 3 hr rfl rfl hge rfl (by omega) rfl) ?_; conv => whnf) | (refine Lq.of_row (Ld.row1 ttOk hrn rfl rfl (k := j) (v := .int .i64 y) (numC_get hgj) rfl rfl) ?_; conv => whnf) | (refine Lq.of_row (Ld.row1 ttOk hrn rfl rfl (k := k) (v := .int .i64 x) (numC_get hgk) rfl rfl) ?_; conv => whnf) | (refine Br.dec (fun hbr => ?_) (fun hbr => ?_); conv => whnf) | (refine (known_fn _).mono fun r w hr => ?_; obtain ⟨hr, hw⟩ := hr; subst hr; replace hL := hL.call hB (Turns.of_below hw); replace hB := Nat.le_trans hB hw.size; conv => whnf) | fail)
        all_goals first
          | exact ⟨rfl, hL.below⟩
          | (refine ⟨j + 1, ⟨rfl, rfl, rfl, rfl, rfl, rfl, rfl, trivial⟩, ⟨by omega, hB, ?_, hL⟩, (by first | omega | (dsimp only; omega))⟩
             intro q hq
             rw [htj] at hq
             rcases List.mem_append.1 hq with hq | hq
             · exact hjx q hq
             · rw [List.mem_singleton] at hq
               subst hq
               omega)
      · obtain rfl : j = k := by omega
        repeat' (first | (refine RunH ?_; intro w hL hB; try clear w) | (refine Br.dec (fun hbr => ?_) (fun hbr => ?_) <;> conv => whnf) | (refine Br.mk (fun hbr => ?_) (fun hbr => ?_) <;> conv => whnf) | (refine Both.mk ?_ ?_ <;> conv => whnf) | (intro o9 ho9; conv => whnf) | (refine Ld.rowF ttOk pvC_len 0 hr rfl rfl hge rfl (by omega) ?_; conv => whnf) | (refine Ld.rowF ttOk pvC_len 3 hr rfl rfl hge rfl (by omega) ?_; conv => whnf) | (refine Ld.row1 ttOk hrn rfl rfl (k := j) (v := .int .i64 x) (numC_get hgk) (by omega) ?_; conv => whnf) | (refine Br.dec (fun hbr => ?_) (fun hbr => ?_); conv => whnf) | (refine (known_fn _).mono fun r w hr => ?_; obtain ⟨hr, hw⟩ := hr; subst hr; replace hL := hL.call hB (Turns.of_below hw); replace hB := Nat.le_trans hB hw.size; conv => whnf) | fail)
        all_goals first
          | exact ⟨rfl, hL.below⟩
          | (refine ⟨j + 1, ⟨rfl, rfl, rfl, rfl, rfl, rfl, trivial⟩, ⟨by omega, hB, ?_, hL⟩, (by first | omega | (dsimp only; omega))⟩
             rw [hts]
             exact hokk.snoc hjx (by omega) (by omega) (by omega))
    · obtain rfl : k = p.ns.length := by omega
      rw [List.take_length] at hokk
      repeat (first | (refine RunH ?_; intro w hL hB; try clear w) | (refine Both.mk ?_ ?_ <;> conv => whnf) | fail)
      refine ⟨z + 1, ⟨rfl, rfl, rfl, rfl, rfl, trivial⟩, ⟨by omega, hB, ?_, hL⟩, (by first | omega | (dsimp only; omega))⟩
      intro i q hi hq
      by_cases e : i = z
      · subst e
        rw [hge] at hq
        cases hq
        exact hokk
      · exact hok i q (by omega) hq
  · obtain rfl : z = ps.length := by omega
    repeat (first | (refine RunH ?_; intro w hL hB; try clear w) | (refine Both.mk ?_ ?_ <;> conv => whnf) | fail)
    refine (next_fn _ _ _ ps live ss c w (hV.below hL.below) (hl.below hL.below) (hs.below hL.below) hcm).mono fun r w' hx => ?_
    have hpok : ∀ v ∈ pvs ps, apN v.ns := fun v hv => by
      obtain ⟨p, hp, rfl⟩ := List.mem_map.1 hv
      obtain ⟨i, hi⟩ := List.mem_iff_getElem?.1 hp
      exact (hok i p (List.getElem?_eq_some_iff.1 hi).1 hi).1
    rcases hx.cases with ⟨hro, rfl, hbl⟩ | ⟨a, ka, kc, ea, ec, hro, rfl, hS⟩
    · replace hL := hL.call hB (Turns.of_below hbl)
      replace hB := Nat.le_trans hB hbl.size
      unfold noneV
      conv => whnf
      repeat (first | (refine RunH ?_; intro w hL hB; try clear w) | (refine Both.mk ?_ ?_ <;> conv => whnf) | fail)
      (refine Nw.sep hL hB (fun b12 w hL hB hb12 => ?_); conv => whnf)
      repeat (first | (refine RunH ?_; intro w hL hB; try clear w) | (refine Both.mk ?_ ?_ <;> conv => whnf) | (refine (known_fn _).mono fun r w hr => ?_; obtain ⟨hr, hw⟩ := hr; subst hr; replace hL := hL.call hB (Turns.of_below hw); replace hB := Nat.le_trans hB hw.size; conv => whnf) | fail)
      exact ⟨rfl, hL.below⟩
    · replace hL := hL.adds hB hS
      replace hB := Nat.le_trans hB hS.below.size
      obtain ⟨k, hk, hk0, hkv, hsane⟩ := nextS_sane2 hpok hro
      rw [pvs_len] at hk
      have hgk : ps[k]? = some ps[k] := List.getElem?_eq_getElem hk
      have hkp : (pvs ps)[k] = (ps[k]).1 := by simp [pvs]
      rw [hkp] at hk0 hkv hsane
      have hmem := List.getElem_mem hk
      have hokk := hok k _ hk hgk
      generalize ps[k] = pv at *
      obtain ⟨p, nv⟩ := pv
      dsimp only at hk0 hkv hsane hokk
      have hns := hn _ hmem
      have hten := hV.ten _ hmem
      dsimp only at hns hten
      obtain ⟨na, nc, hnv⟩ := hns.shape
      rw [numC_len] at hnv
      subst hnv
      obtain ⟨b, o, rfl, _⟩ := h.addr (by omega)
      have hnl := List.length_pos_iff.2 hk0
      obtain ⟨bn, on, rfl, _⟩ := hns.sl.toN.addr (by omega)
      have hav : a.vol = (k : Int) + 1 := by rw [hkv]; exact hokk.2.2 hk0
      have hkl := List.length_pos_iff.2 hsane.keep0
      have hel := List.length_pos_iff.2 hsane.ns0
      obtain ⟨⟨kb, rfl⟩, _⟩ := own_addr (hL.at (i := 0) rfl) hkl
      obtain ⟨⟨eb, rfl⟩, _⟩ := own_addr (hL.at (i := 1) rfl) hel
      have hst := hsane.st
      have hkle := (hL.rowN (i := 0) rfl).le
      have hele := (hL.rowN (i := 1) rfl).le
      unfold actV
      conv => whnf
      repeat (first | (refine RunH ?_; intro w hL hB; try clear w) | (refine Both.mk ?_ ?_ <;> conv => whnf) | fail)
      (refine Nw.sep hL hB (fun b12 w hL hB hb12 => ?_); conv => whnf)
      repeat (first | (refine RunH ?_; intro w hL hB; try clear w) | (refine Both.mk ?_ ?_ <;> conv => whnf) | fail)
      intro o1 ho1
      conv => whnf
      refine Ld.rowN ttOk pvC_len (h.below hL.below).rowOf rfl rfl rfl hgk (by omega) ?_
      conv => whnf
      (refine Nw.sep hL hB (fun b14 w hL hB hb14 => ?_); conv => whnf)
      repeat (first | (refine RunH ?_; intro w hL hB; try clear w) | (refine Both.mk ?_ ?_ <;> conv => whnf) | fail)
      dsimp only [pvC, cellsL, overL, splice] at hL
      replace hL := hL.pop 4
      refine V.loop (α := Nat) (fun i => [(0, .slice (some ⟨b, o, none⟩) ps.length vc), (1, lv), (7, .pointer (some ⟨b7, 0, none⟩)), (12, .pointer (some ⟨b12, 0, none⟩)), (14, .pointer (some ⟨b14, 0, none⟩)), (15, .int .i64 i)])
        (fun i w' => i ≤ a.keep.length ∧ w0.heap.size ≤ w'.heap.size ∧ Sep Try.prog w0.heap.size w0 w' [.blk b14 (pvC (p, .slice (some ⟨bn, on, none⟩) p.ns.length nc)) 30, .blk b12 [.int .i64 a.kind, .int .i64 a.vol, .int .i64 a.st, .slice (some ⟨kb, 0, none⟩) a.keep.length kc, .slice (some ⟨eb, 0, none⟩) a.ns.length ec] 32, .row 3 1 (.slice (some ⟨kb, 0, none⟩) a.keep.length kc) a.keep.length (numC a.keep), .row 3 1 (.slice (some ⟨eb, 0, none⟩) a.ns.length ec) a.ns.length (numC a.ns)]) (fun i => a.keep.length - i) 0 ⟨rfl, rfl, rfl, rfl, rfl, rfl, trivial⟩ ⟨Nat.zero_le _, hB, hL⟩ ?_
      clear hL hB
      rintro i w ⟨hi, hB, hL⟩
      repeat (first | (refine RunH ?_; intro w hL hB; try clear w) | (refine Both.mk ?_ ?_ <;> conv => whnf) | fail)
      refine Br.dec (fun hlt => ?_) (fun hlt => ?_)
      · have hgi : a.keep[i]? = some a.keep[i] := List.getElem?_eq_getElem (by omega)
        have hmi := List.getElem_mem (show i < a.keep.length by omega)
        generalize a.keep[i] = x at hgi hmi
        have hxa := hsane.has x hmi
        have hxl := hsane.keepl x hmi
        repeat (first | (refine RunH ?_; intro w hL hB; try clear w) | (refine Both.mk ?_ ?_ <;> conv => whnf) | fail)
        intro o2 ho2
        conv => whnf
        refine Ld.row1 ttOk (hL.rowN (i := 2) rfl).rowOf rfl rfl (k := i) (numC_get hgi) (by omega) ?_
        conv => whnf
        repeat (first | (refine RunH ?_; intro w hL hB; try clear w) | (refine Both.mk ?_ ?_ <;> conv => whnf) | fail)
        refine V.loop (α := Nat) (fun j => [(0, .slice (some ⟨b, o, none⟩) ps.length vc), (1, lv), (7, .pointer (some ⟨b7, 0, none⟩)), (12, .pointer (some ⟨b12, 0, none⟩)), (14, .pointer (some ⟨b14, 0, none⟩)), (15, .int .i64 i), (16, .int .i64 x), (17, .bool (decide (x = -1 ∨ x ∈ p.ns.take j))), (18, .int .i64 j)])
          (fun j w' => j ≤ p.ns.length ∧ w0.heap.size ≤ w'.heap.size ∧ Sep Try.prog w0.heap.size w0 w' [.blk b14 (pvC (p, .slice (some ⟨bn, on, none⟩) p.ns.length nc)) 30, .blk b12 [.int .i64 a.kind, .int .i64 a.vol, .int .i64 a.st, .slice (some ⟨kb, 0, none⟩) a.keep.length kc, .slice (some ⟨eb, 0, none⟩) a.ns.length ec] 32, .row 3 1 (.slice (some ⟨kb, 0, none⟩) a.keep.length kc) a.keep.length (numC a.keep), .row 3 1 (.slice (some ⟨eb, 0, none⟩) a.ns.length ec) a.ns.length (numC a.ns)]) (fun j => p.ns.length - j) 0 ⟨rfl, rfl, rfl, rfl, rfl, rfl, rfl, by simp [look], rfl, trivial⟩ ⟨Nat.zero_le _, hB, hL⟩ ?_
        clear hL hB
        rintro j w ⟨hj, hB, hL⟩
        repeat (first | (refine RunH ?_; intro w hL hB; try clear w) | (refine Both.mk ?_ ?_ <;> conv => whnf) | fail)
        refine Br.dec (fun hlt => ?_) (fun hlt => ?_)
        · have hgj : p.ns[j]? = some p.ns[j] := List.getElem?_eq_getElem (by omega)
          have htj := List.take_succ_eq_append_getElem (show j < p.ns.length by omega)
          generalize p.ns[j] = y at hgj htj
          by_cases hin : x = -1 ∨ x ∈ p.ns.take j
          · have hin' : x = -1 ∨ x ∈ p.ns.take (j + 1) := by
              rw [htj]
              rcases hin with e | e
              · exact .inl e
              · exact .inr (List.mem_append_left _ e)
            rw [decide_eq_true hin]
            repeat (first | (refine RunH ?_; intro w hL hB; try clear w) | (refine Both.mk ?_ ?_ <;> conv => whnf) | fail)
            exact ⟨j + 1, ⟨rfl, rfl, rfl, rfl, rfl, rfl, rfl, by rw [decide_eq_true hin']; rfl, rfl, trivial⟩, ⟨by omega, hB, hL⟩, (by first | omega | (dsimp only; omega))⟩
          · rw [decide_eq_false hin]
            have hin' : decide (x = -1 ∨ x ∈ p.ns.take (j + 1)) = decide (y = x) := by
              rw [htj]
              refine decide_eq_decide.2 ⟨fun e => ?_, fun e => .inr (List.mem_append_right _ (by rw [e]; exact List.mem_singleton_self _))⟩
              rcases e with e | e
              · exact absurd (.inl e) hin
              · rcases List.mem_append.1 e with e | e
                · exact absurd (.inr e) hin
                · exact (List.mem_singleton.1 e).symm
            repeat (first | (refine RunH ?_; intro w hL hB; try clear w) | (refine Both.mk ?_ ?_ <;> conv => whnf) | fail)
            intro o3 ho3
            conv => whnf
            repeat (first | (refine RunH ?_; intro w hL hB; try clear w) | (refine Both.mk ?_ ?_ <;> conv => whnf) | fail)
            refine Ld.row1 ttOk (hns.below hL.below).sl.toN.rowOf rfl rfl (k := j) (numC_get hgj) (by omega) ?_
            conv => whnf
            repeat (first | (refine RunH ?_; intro w hL hB; try clear w) | (refine Both.mk ?_ ?_ <;> conv => whnf) | fail)
            exact ⟨j + 1, ⟨rfl, rfl, rfl, rfl, rfl, rfl, rfl, by rw [hin']; rfl, rfl, trivial⟩, ⟨by omega, hB, hL⟩, (by first | omega | (dsimp only; omega))⟩
        · obtain rfl : j = p.ns.length := by omega
          rw [List.take_length, decide_eq_true hxa]
          rcases hxl with hx1 | hx1
          · repeat (first | (refine RunH ?_; intro w hL hB; try clear w) | (refine Both.mk ?_ ?_ <;> conv => whnf) | fail)
            exact ⟨i + 1, ⟨rfl, rfl, rfl, rfl, rfl, rfl, trivial⟩, ⟨by omega, hB, hL⟩, (by first | omega | (dsimp only; omega))⟩
          · obtain ⟨q1, q2, q3⟩ := liveS_iff.1 hx1
            have q4 := liveS_lt hx1
            obtain ⟨bl, ol, cl, hlv, _⟩ := (hl.below hL.below).sl.toN.addrV (by rw [boolC_len]; omega)
            subst hlv
            have hb9 := boolC_len live
            have hrl := (hl.below hL.below).sl.toN.rowOf
            have hgl : (boolC live)[x.toNat]? = some (.bool true) := boolC_get q3
            repeat (first | (refine RunH ?_; intro w hL hB; try clear w) | (refine Both.mk ?_ ?_ <;> conv => whnf) | fail)
            intro o4 ho4
            conv => whnf
            repeat (first | (refine RunH ?_; intro w hL hB; try clear w) | (refine Both.mk ?_ ?_ <;> conv => whnf) | fail)
            refine Ld.row1 ttOk hrl rfl rfl (k := x.toNat) hgl (by omega) ?_
            conv => whnf
            repeat (first | (refine RunH ?_; intro w hL hB; try clear w) | (refine Both.mk ?_ ?_ <;> conv => whnf) | fail)
            exact ⟨i + 1, ⟨rfl, rfl, rfl, rfl, rfl, rfl, trivial⟩, ⟨by omega, hB, hL⟩, (by first | omega | (dsimp only; omega))⟩
      · obtain rfl : i = a.keep.length := by omega
        repeat (first | (refine RunH ?_; intro w hL hB; try clear w) | (refine Both.mk ?_ ?_ <;> conv => whnf) | fail)
        refine V.loop (α := Nat) (fun i => [(1, lv), (12, .pointer (some ⟨b12, 0, none⟩)), (14, .pointer (some ⟨b14, 0, none⟩)), (19, .int .i64 i)])
          (fun i w' => i ≤ a.ns.length ∧ w0.heap.size ≤ w'.heap.size ∧ Sep Try.prog w0.heap.size w0 w' [.blk b14 (pvC (p, .slice (some ⟨bn, on, none⟩) p.ns.length nc)) 30, .blk b12 [.int .i64 a.kind, .int .i64 a.vol, .int .i64 a.st, .slice (some ⟨kb, 0, none⟩) a.keep.length kc, .slice (some ⟨eb, 0, none⟩) a.ns.length ec] 32, .row 3 1 (.slice (some ⟨kb, 0, none⟩) a.keep.length kc) a.keep.length (numC a.keep), .row 3 1 (.slice (some ⟨eb, 0, none⟩) a.ns.length ec) a.ns.length (numC a.ns)]) (fun i => a.ns.length - i) 0 ⟨rfl, rfl, rfl, rfl, trivial⟩ ⟨Nat.zero_le _, hB, hL⟩ ?_
        clear hL hB
        rintro i w ⟨hi, hB, hL⟩
        repeat (first | (refine RunH ?_; intro w hL hB; try clear w) | (refine Both.mk ?_ ?_ <;> conv => whnf) | fail)
        refine Br.dec (fun hlt => ?_) (fun hlt => ?_)
        · have hgi : a.ns[i]? = some a.ns[i] := List.getElem?_eq_getElem (by omega)
          have hmi := List.getElem_mem (show i < a.ns.length by omega)
          have hap : ∀ j, j < i → ∀ y, a.ns[j]? = some y → y ≠ a.ns[i] ∨ a.ns[i] = -1 := fun j hj y hy => by
            obtain ⟨hjl, rfl⟩ := List.getElem?_eq_some_iff.1 hy
            exact List.pairwise_iff_getElem.1 hsane.ap j i hjl (by omega) hj
          generalize a.ns[i] = x at hgi hmi hap
          have hxl := hsane.nsl x hmi
          repeat (first | (refine RunH ?_; intro w hL hB; try clear w) | (refine Both.mk ?_ ?_ <;> conv => whnf) | fail)
          intro o2 ho2
          conv => whnf
          refine Ld.row1 ttOk (hL.rowN (i := 3) rfl).rowOf rfl rfl (k := i) (numC_get hgi) (by omega) ?_
          conv => whnf
          rcases hxl with hx1 | hx1
          case' inr =>
            obtain ⟨q1, q2, q3⟩ := liveS_iff.1 hx1
            have q4 := liveS_lt hx1
            obtain ⟨bl, ol, cl, hlv, _⟩ := (hl.below hL.below).sl.toN.addrV (by rw [boolC_len]; omega)
            subst hlv
            have hb9 := boolC_len live
            have hrl := (hl.below hL.below).sl.toN.rowOf
            have hgl : (boolC live)[x.toNat]? = some (.bool true) := boolC_get q3
            repeat (first | (refine RunH ?_; intro w hL hB; try clear w) | (refine Both.mk ?_ ?_ <;> conv => whnf) | fail)
            intro o4 ho4
            conv => whnf
            repeat (first | (refine RunH ?_; intro w hL hB; try clear w) | (refine Both.mk ?_ ?_ <;> conv => whnf) | fail)
            refine Ld.row1 ttOk hrl rfl rfl (k := x.toNat) hgl (by omega) ?_
            conv => whnf
            repeat (first | (refine RunH ?_; intro w hL hB; try clear w) | (refine Both.mk ?_ ?_ <;> conv => whnf) | fail)
            refine V.loop (α := Nat) (fun j => [(1, .slice (some ⟨bl, ol, none⟩) (boolC live).length cl), (12, .pointer (some ⟨b12, 0, none⟩)), (14, .pointer (some ⟨b14, 0, none⟩)), (19, .int .i64 i), (20, .int .i64 x), (21, .int .i64 j)])
              (fun j w' => j ≤ i ∧ w0.heap.size ≤ w'.heap.size ∧ Sep Try.prog w0.heap.size w0 w' [.blk b14 (pvC (p, .slice (some ⟨bn, on, none⟩) p.ns.length nc)) 30, .blk b12 [.int .i64 a.kind, .int .i64 a.vol, .int .i64 a.st, .slice (some ⟨kb, 0, none⟩) a.keep.length kc, .slice (some ⟨eb, 0, none⟩) a.ns.length ec] 32, .row 3 1 (.slice (some ⟨kb, 0, none⟩) a.keep.length kc) a.keep.length (numC a.keep), .row 3 1 (.slice (some ⟨eb, 0, none⟩) a.ns.length ec) a.ns.length (numC a.ns)]) (fun j => i - j) 0 ⟨rfl, rfl, rfl, rfl, rfl, rfl, trivial⟩ ⟨Nat.zero_le _, hB, hL⟩ ?_
          case' inl =>
            repeat (first | (refine RunH ?_; intro w hL hB; try clear w) | (refine Both.mk ?_ ?_ <;> conv => whnf) | fail)
            refine V.loop (α := Nat) (fun j => [(1, lv), (12, .pointer (some ⟨b12, 0, none⟩)), (14, .pointer (some ⟨b14, 0, none⟩)), (19, .int .i64 i), (20, .int .i64 x), (21, .int .i64 j)])
              (fun j w' => j ≤ i ∧ w0.heap.size ≤ w'.heap.size ∧ Sep Try.prog w0.heap.size w0 w' [.blk b14 (pvC (p, .slice (some ⟨bn, on, none⟩) p.ns.length nc)) 30, .blk b12 [.int .i64 a.kind, .int .i64 a.vol, .int .i64 a.st, .slice (some ⟨kb, 0, none⟩) a.keep.length kc, .slice (some ⟨eb, 0, none⟩) a.ns.length ec] 32, .row 3 1 (.slice (some ⟨kb, 0, none⟩) a.keep.length kc) a.keep.length (numC a.keep), .row 3 1 (.slice (some ⟨eb, 0, none⟩) a.ns.length ec) a.ns.length (numC a.ns)]) (fun j => i - j) 0 ⟨rfl, rfl, rfl, rfl, rfl, rfl, trivial⟩ ⟨Nat.zero_le _, hB, hL⟩ ?_
          all_goals
            clear hL hB
            rintro j w ⟨hj, hB, hL⟩
            repeat (first | (refine RunH ?_; intro w hL hB; try clear w) | (refine Both.mk ?_ ?_ <;> conv => whnf) | fail)
            refine Br.dec (fun hlt => ?_) (fun hlt => ?_)
            · obtain ⟨y, hgy⟩ : ∃ y, a.ns[j]? = some y := ⟨a.ns[j]'(by omega), List.getElem?_eq_getElem _⟩
              have hyx := hap j (by omega) y hgy
              first
                | (have hx1' : x = -1 := hx1
                   repeat (first | (refine RunH ?_; intro w hL hB; try clear w) | (refine Both.mk ?_ ?_ <;> conv => whnf) | fail)
                   exact ⟨j + 1, ⟨rfl, rfl, rfl, rfl, rfl, rfl, trivial⟩, ⟨by omega, hB, hL⟩, (by first | omega | (dsimp only; omega))⟩)
                | (repeat (first | (refine RunH ?_; intro w hL hB; try clear w) | (refine Both.mk ?_ ?_ <;> conv => whnf) | fail)
                   intro o5 ho5
                   conv => whnf
                   repeat (first | (refine RunH ?_; intro w hL hB; try clear w) | (refine Both.mk ?_ ?_ <;> conv => whnf) | fail)
                   refine Ld.row1 ttOk (hL.rowN (i := 3) rfl).rowOf rfl rfl (k := j) (numC_get hgy) (by omega) ?_
                   conv => whnf
                   repeat (first | (refine RunH ?_; intro w hL hB; try clear w) | (refine Both.mk ?_ ?_ <;> conv => whnf) | fail)
                   exact ⟨j + 1, ⟨rfl, rfl, rfl, rfl, rfl, rfl, trivial⟩, ⟨by omega, hB, hL⟩, (by first | omega | (dsimp only; omega))⟩)
            · obtain rfl : j = i := by omega
              repeat (first | (refine RunH ?_; intro w hL hB; try clear w) | (refine Both.mk ?_ ?_ <;> conv => whnf) | fail)
              exact ⟨j + 1, ⟨rfl, rfl, rfl, rfl, trivial⟩, ⟨by omega, hB, hL⟩, (by first | omega | (dsimp only; omega))⟩
        · obtain rfl : i = a.ns.length := by omega
          repeat (first | (refine RunH ?_; intro w hL hB; try clear w) | (refine Both.mk ?_ ?_ <;> conv => whnf) | (refine (known_fn _).mono fun r w hr => ?_; obtain ⟨hr, hw⟩ := hr; subst hr; replace hL := hL.call hB (Turns.of_below hw); replace hB := Nat.le_trans hB hw.size; conv => whnf) | fail)
          exact ⟨rfl, hL.below⟩
end Go.Proofs.Ythifnfoppamkiaa
