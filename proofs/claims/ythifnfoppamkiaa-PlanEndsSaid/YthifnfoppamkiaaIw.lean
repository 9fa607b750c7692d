/- Plan: the code's Next. Nothing is claimed here. -/
import Derived.Test.YthifnfoppamkiaaIv
import Derived.Test.YthifnfoppamkiaaMa
namespace Go.Proofs.Ythifnfoppamkiaa
open Go.RowKit
set_option linter.unusedVariables false
set_option linter.unusedSimpArgs false
set_option maxRecDepth 100000

theorem codeI_bad (k m : Int) (h : k < 1 ∨ m < 0 ∨ 14 < k ∨ 14 - k < m) (w : World) :
    Fn Try.prog 18 #[.int .i64 k, .int .i64 m] w fun r w' => r = .tuple #[.slice none 0 0, .int .i64 1] ∧ w' = w := by
  refine Fn.mk Try.func18 rfl (by kernel_rfl) Try.ntmps18 rfl (by rw [Try.results18]) ?_
  by_cases h1 : k < 1
  · refine RunR ?_
    exact ⟨rfl, rfl⟩
  · by_cases h2 : m < 0
    · refine RunR ?_
      exact ⟨rfl, rfl⟩
    · by_cases h3 : 14 < k
      · refine RunR ?_
        exact ⟨rfl, rfl⟩
      · refine RunR ?_
        exact ⟨rfl, rfl⟩
theorem codeI_good (k m : Int) (h1 : 1 ≤ k) (h2 : 0 ≤ m) (h3 : k + m ≤ 14) (w : World) :
    Fn Try.prog 18 #[.int .i64 k, .int .i64 m] w fun r w' => (∃ u, r = .tuple #[u, .int .i64 0]) ∧ Below w.heap.size w w' := by
  obtain ⟨kn, rfl⟩ := Int.eq_ofNat_of_zero_le (show 0 ≤ k by omega)
  obtain ⟨mn, rfl⟩ := Int.eq_ofNat_of_zero_le h2
  exact (code_fn kn mn (by omega) (by omega) w).mono fun r w' ⟨u, hr, _, hb⟩ => ⟨⟨u, hr⟩, hb⟩

theorem findS_some {α β : Type} {f : α → Option β} : ∀ {l : List α} {j : Nat} {x : α} {b : β}, l[j]? = some x → (∀ i y, i < j → l[i]? = some y → f y = none) → f x = some b → l.findSome? f = some b
  | [], j, x, b, h, _, _ => by simp at h
  | a :: l, 0, x, b, h, _, hb => by
    simp only [List.getElem?_cons_zero, Option.some.injEq] at h
    subst h
    simp [List.findSome?, hb]
  | a :: l, j + 1, x, b, h, hn, hb => by
    have h0 := hn 0 a (by omega) rfl
    rw [List.getElem?_cons_succ] at h
    simp only [List.findSome?, h0]
    exact findS_some h (fun i y hi hy => hn (i + 1) y (by omega) (by rw [List.getElem?_cons_succ]; exact hy)) hb
theorem findS_none {α β : Type} {f : α → Option β} {l : List α} (h : ∀ (i : Nat) (y : α), l[i]? = some y → f y = none) : l.findSome? f = none := by
  rw [List.findSome?_eq_none_iff]
  intro x hx
  obtain ⟨i, hi⟩ := List.mem_iff_getElem?.1 hx
  exact h i x hi

def fidL : List FuncId := [20, 21, 22, 23, 24]
def funV (bw : Nat) (f : FuncId) : Value := .func (.func f) #[.pointer (some ⟨bw, 0, none⟩)] #[]
theorem rules_len (l : List PV) (live : List Bool) (ss : List Int) (c : PC) : (rulesS l live ss c).length = 5 := rfl
/-- each rule's contract -/
theorem rule_fn {j : Nat} {f : FuncId} {r : Nat → PV → Option PA} (l : List PV) (live : List Bool) (ss : List Int) (c : PC) (hf : fidL[j]? = some f) (hr : (rulesS l live ss c)[j]? = some r) (p : PV × Value) (i bw : Nat) (vs lv sv : Value) (w0 : World)
    (hC : Blk w0 bw (wdC vs lv (loadS l) sv c) 55) (hl : SlE w0 lv (boolC live)) (hs : SlE w0 sv (numC ss)) (hn : SlE w0 p.2 (numC p.1.ns)) (ht : p.1.ns.length ≤ 40) (hp0 : 0 < p.1.ns.length) (hok : okC c) (hcm : c.cp ≤ 9223372036854775807) (hld : ∀ s, loadS l s ≤ 2400) :
    Fn Try.prog f #[.pointer (some ⟨bw, 0, none⟩), .int .i64 i, pvV p] w0 fun x w' => ActS w0 (r i p.1) x w' := by
  match j, hf, hr with
  | 0, hf, hr => cases hf; cases hr; exact lacking_fn p i bw vs lv sv l c live w0 hC hl hn ht hok hcm
  | 1, hf, hr => cases hf; cases hr; exact broken_fn p i bw vs lv sv l c live w0 hC hl hn ht hp0 hok
  | 2, hf, hr => cases hf; cases hr; exact full_fn p i bw vs lv sv l c live ss w0 hC hl hs hn ht
  | 3, hf, hr => cases hf; cases hr; exact strips_fn p i bw vs lv sv l c live w0 hC hl hn ht hok
  | 4, hf, hr => cases hf; cases hr; exact uneven_fn p i bw vs lv sv l c live w0 hC hl hn ht hp0 hld
  | j + 5, hf, hr => simp [fidL] at hf

theorem world_build (va : Option Addr) (vn vc : Nat) (la : Option Addr) (ln lc : Nat) (sa : Option Addr) (sn sc : Nat) (ld : Int → Nat) (c : PC) (K : Value → Prop) (hk : K (.agg (wdC (.slice va vn vc) (.slice la ln lc) ld (.slice sa sn sc) c).toArray)) :
    Qv Try.prog (Instr.build 55 #[(0, .slice va vn vc), (1, .slice la ln lc), (2, .agg (loadC ld).toArray), (3, .slice sa sn sc), (4, cfV c)]) K := by
  refine Qv.str ttOk rfl rfl rfl ?_
  exact hk
set_option maxHeartbeats 16000000 in
theorem next_fn (v lv sv : Value) (ps : List (PV × Value)) (live : List Bool) (ss : List Int) (c : PC) (w0 : World) (h : VolS w0 v ps) (hl : SlE w0 lv (boolC live)) (hs : SlE w0 sv (numC ss)) (hcm : c.cp ≤ 9223372036854775807) :
    Fn Try.prog 9 #[v, lv, sv, cfV c] w0 fun r w' => ActS w0 (nextS (pvs ps) live ss c) r w' := by
  obtain ⟨va, vc, rfl⟩ := h.sl.shape
  obtain ⟨la, lc, rfl⟩ := hl.shape
  obtain ⟨sa, sc, rfl⟩ := hs.shape
  have hL := Sep.start Try.prog w0
  have hB := Nat.le_refl w0.heap.size
  have hfew := h.few
  unfold cfV
  refine Fn.mk Try.func9 rfl (by kernel_rfl) Try.ntmps9 rfl (by rw [Try.results9]) ?_
  repeat (first | (refine RunH ?_; intro w hL hB; try clear w) | (refine Both.mk ?_ ?_ <;> conv => whnf) | fail)
  (refine Nw.sep hL hB (fun b7 w hL hB hb7 => ?_); conv => whnf)
  repeat (first | (refine RunH ?_; intro w hL hB; try clear w) | (refine Both.mk ?_ ?_ <;> conv => whnf) | fail)
  (refine Nw.sep hL hB (fun b8 w hL hB hb8 => ?_); conv => whnf)
  by_cases hok : okC c
  case neg =>
    have hno : nextS (pvs ps) live ss c = none := by unfold nextS; rw [if_neg hok]
    rw [hno]
    by_cases hkm : 1 ≤ c.k ∧ 0 ≤ c.m ∧ c.k + c.m ≤ 14
    · have hcp : c.cp < 1 := Decidable.byContradiction fun e => hok ⟨by omega, hkm.1, hkm.2.1, by omega, by omega, hkm.2.2⟩
      repeat (first | (refine RunH ?_; intro w hL hB; try clear w) | (refine Both.mk ?_ ?_ <;> conv => whnf) | fail)
      refine (codeI_good c.k c.m hkm.1 hkm.2.1 hkm.2.2 _).mono fun r w hr => ?_
      obtain ⟨⟨u, rfl⟩, hbl⟩ := hr
      replace hL := hL.call hB (Turns.of_below hbl)
      replace hB := Nat.le_trans hB hbl.size
      conv => whnf
      repeat (first | (refine RunH ?_; intro w hL hB; try clear w) | (refine Both.mk ?_ ?_ <;> conv => whnf) | fail)
      exact ⟨rfl, hL.below⟩
    · repeat (first | (refine RunH ?_; intro w hL hB; try clear w) | (refine Both.mk ?_ ?_ <;> conv => whnf) | (refine (codeI_bad c.k c.m (by omega) _).mono fun r w1 hr => ?_; obtain ⟨hr, hw⟩ := hr; subst hr; subst hw; conv => whnf) | fail)
      exact ⟨rfl, hL.below⟩
  case pos =>
    have hok' := hok
    have hnx : nextS (pvs ps) live ss c = (rulesS (pvs ps) live ss c).findSome? fun r => firstS r (pvs ps) := by unfold nextS; rw [if_pos hok]
    rw [hnx]
    obtain ⟨hc1, hc2, hc3, hc4, hc5, hc6⟩ := hok'
    repeat (first | (refine RunH ?_; intro w hL hB; try clear w) | (refine Both.mk ?_ ?_ <;> conv => whnf) | fail)
    refine (codeI_good c.k c.m hc2 hc3 hc6 _).mono fun r w hr => ?_
    obtain ⟨⟨u, rfl⟩, hbl⟩ := hr
    replace hL := hL.call hB (Turns.of_below hbl)
    replace hB := Nat.le_trans hB hbl.size
    conv => whnf
    repeat (first | (refine RunK ?_; intro w hL hB; try clear w) | (refine V.treeA ttOk hL (.q 0 (.q 1 (.q 2 (.q 4 (.q 5 (.alt 3 (.q 6 (.alt 7 (.q 8 .nil) .stop)) .stop)))))) mixed (by decide +kernel) ?_; replace hL := hL.drew; conv => whnf) | (refine V.tailA ttOk mixed (by decide +kernel) ?_; replace hL := hL.drew; conv => whnf) | (refine Both.mk ?_ ?_ <;> conv => whnf) | (intro w9 hw9; conv => whnf) | fail)
    refine (loadsOf_fn _ ps _ (h.below hL.below)).mono fun r w hr => ?_
    obtain ⟨rfl, hbl⟩ := hr
    replace hL := hL.call hB (Turns.of_below hbl)
    replace hB := Nat.le_trans hB hbl.size
    have hld : ∀ s, loadS (pvs ps) s ≤ 2400 := fun s => by
      have := h.load ps.length s
      rwa [List.take_length] at this
    have hrule := fun {j f r} => @rule_fn j f r (pvs ps) live ss c
    have hR5 := rules_len (pvs ps) live ss c
    generalize hR : rulesS (pvs ps) live ss c = R at *
    generalize hld' : loadS (pvs ps) = ld at *
    conv => whnf
    repeat (first | (refine RunH ?_; intro w hL hB; try clear w) | (refine Both.mk ?_ ?_ <;> conv => whnf) | (intro w9 hw9; conv => whnf) | fail)
    (refine Nw.sep hL hB (fun bw w hL hB hbw => ?_); conv => whnf)
    replace hL : Sep Try.prog w0.heap.size w0 w [.blk bw (wdC (.slice va ps.length vc) (.slice la (boolC live).length lc) ld (.slice sa (numC ss).length sc) c) 55, .blk b8 [.int .i64 0, .int .i64 0, .int .i64 0, .slice none 0 0, .slice none 0 0] 32, .blk b7 (cfC c) 26] := hL
    repeat (first | (refine RunH ?_; intro w hL hB; try clear w) | (refine Both.mk ?_ ?_ <;> conv => whnf) | (intro w9 hw9; conv => whnf) | fail)
    refine Rv.buildS ttOk hL tl57 tl56 rfl rfl (by intro u hu; simp only [List.mem_cons, List.not_mem_nil, or_false] at hu; rcases hu with rfl | rfl | rfl | rfl | rfl <;> rfl) (by decide) (by decide) hB fun bf w hL hB => ?_
    replace hL : Sep Try.prog w0.heap.size w0 w [.row 56 1 (.slice (some ⟨bf, 0, none⟩) 5 5) 5 (fidL.map (funV bw)), .blk bw (wdC (.slice va ps.length vc) (.slice la (boolC live).length lc) ld (.slice sa (numC ss).length sc) c) 55, .blk b8 [.int .i64 0, .int .i64 0, .int .i64 0, .slice none 0 0, .slice none 0 0] 32, .blk b7 (cfC c) 26] := hL
    conv => whnf
    repeat (first | (refine RunH ?_; intro w hL hB; try clear w) | (refine Both.mk ?_ ?_ <;> conv => whnf) | fail)
    refine V.loop (α := Nat) (fun z => [(0, .slice va ps.length vc), (7, .pointer (some ⟨b7, 0, none⟩)), (8, .pointer (some ⟨b8, 0, none⟩)), (9, .bool false), (12, .pointer (some ⟨bw, 0, none⟩)), (13, .slice (some ⟨bf, 0, none⟩) 5 5), (55, .slice (some ⟨bf, 0, none⟩) 5 5), (56, .int .i64 5), (57, .int .i64 z)])
      (fun z w' => z ≤ 5 ∧ w0.heap.size ≤ w'.heap.size ∧ (∀ (i : Nat) (r : Nat → PV → Option PA), i < z → R[i]? = some r → firstS r (pvs ps) = none) ∧ Sep Try.prog w0.heap.size w0 w' [.row 56 1 (.slice (some ⟨bf, 0, none⟩) 5 5) 5 (fidL.map (funV bw)), .blk bw (wdC (.slice va ps.length vc) (.slice la (boolC live).length lc) ld (.slice sa (numC ss).length sc) c) 55, .blk b8 [.int .i64 0, .int .i64 0, .int .i64 0, .slice none 0 0, .slice none 0 0] 32, .blk b7 (cfC c) 26]) (fun z => 5 - z) 0 ⟨rfl, rfl, rfl, rfl, rfl, rfl, rfl, rfl, rfl, trivial⟩ ⟨by omega, hB, by intro i r hi; omega, hL⟩ ?_
    clear hL hB
    rintro j w ⟨hj, hB, hno, hL⟩
    repeat (first | (refine RunH ?_; intro w hL hB; try clear w) | (refine Both.mk ?_ ?_ <;> conv => whnf) | fail)
    refine Br.dec (fun hlt => ?_) (fun hlt => ?_)
    · have hj5 : j < 5 := by omega
      obtain ⟨r, hr⟩ : ∃ r, R[j]? = some r := ⟨R[j]'(by rw [hR5]; exact hj5), List.getElem?_eq_getElem _⟩
      obtain ⟨f, hf⟩ : ∃ f, fidL[j]? = some f := ⟨fidL[j]'(by exact hj5), List.getElem?_eq_getElem _⟩
      have hfv : (fidL.map (funV bw))[j]? = some (funV bw f) := by rw [List.getElem?_map, hf]; rfl
      repeat (first | (refine RunH ?_; intro w hL hB; try clear w) | (refine Both.mk ?_ ?_ <;> conv => whnf) | fail)
      intro o1 ho1
      conv => whnf
      refine Ld.row1 ttOk (hL.rowN (i := 0) rfl).rowOf rfl rfl (k := j) hfv (by omega) ?_
      conv => whnf
      repeat (first | (refine RunH ?_; intro w hL hB; try clear w) | (refine Both.mk ?_ ?_ <;> conv => whnf) | fail)
      refine V.loop (α := Nat) (fun z => [(0, .slice va ps.length vc), (7, .pointer (some ⟨b7, 0, none⟩)), (8, .pointer (some ⟨b8, 0, none⟩)), (9, .bool false), (12, .pointer (some ⟨bw, 0, none⟩)), (13, .slice (some ⟨bf, 0, none⟩) 5 5), (55, .slice (some ⟨bf, 0, none⟩) 5 5), (56, .int .i64 5), (57, .int .i64 j), (15, .func (.func f) #[.pointer (some ⟨bw, 0, none⟩)] #[]), (61, .slice va ps.length vc), (62, .int .i64 ps.length), (63, .int .i64 z)])
        (fun z w' => z ≤ ps.length ∧ w0.heap.size ≤ w'.heap.size ∧ PreS r (pvs ps) z ∧ Sep Try.prog w0.heap.size w0 w' [.row 56 1 (.slice (some ⟨bf, 0, none⟩) 5 5) 5 (fidL.map (funV bw)), .blk bw (wdC (.slice va ps.length vc) (.slice la (boolC live).length lc) ld (.slice sa (numC ss).length sc) c) 55, .blk b8 [.int .i64 0, .int .i64 0, .int .i64 0, .slice none 0 0, .slice none 0 0] 32, .blk b7 (cfC c) 26]) (fun z => ps.length - z) 0 ⟨rfl, rfl, rfl, rfl, rfl, rfl, rfl, rfl, rfl, rfl, rfl, rfl, rfl, trivial⟩ ⟨by omega, hB, PreS.zero _ _, hL⟩ ?_
      clear hL hB
      rintro k w ⟨hk, hB, hpre, hL⟩
      repeat (first | (refine RunH ?_; intro w hL hB; try clear w) | (refine Both.mk ?_ ?_ <;> conv => whnf) | fail)
      refine Br.dec (fun hlt2 => ?_) (fun hlt2 => ?_)
      · have hke : k < ps.length := by omega
        have hge : ps[k]? = some ps[k] := List.getElem?_eq_getElem hke
        have hmem := List.getElem_mem hke
        have hpv := pvs_get hge
        generalize hev : ps[k] = pv at *
        obtain ⟨p, nv⟩ := pv
        have hns := h.ns _ hmem
        have hten := h.ten _ hmem
        dsimp only at hns hten hpv
        obtain ⟨na, nc, hnv⟩ := hns.shape
        rw [numC_len] at hnv
        subst hnv
        obtain ⟨b, o, rfl, hrr⟩ := (h.sl.below hL.below).addr (by omega)
        repeat (first | (refine RunH ?_; intro w hL hB; try clear w) | (refine Both.mk ?_ ?_ <;> conv => whnf) | fail)
        intro o' ho'
        conv => whnf
        refine Ld.rowN ttOk pvC_len hrr rfl rfl rfl hge (by omega) ?_
        conv => whnf
        (refine Nw.sep hL hB (fun b17 w hL hB hb17 => ?_); conv => whnf)
        repeat (first | (refine RunH ?_; intro w hL hB; try clear w) | (refine Both.mk ?_ ?_ <;> conv => whnf) | fail)
        dsimp only [pvC, cellsL, overL, splice] at hL
        refine Br.dec (fun hz => ?_) (fun hz => ?_)
        · have hnone := hpre.snoc hpv (atRule_none fun hn => absurd (List.length_eq_zero_iff.1 (by omega)) hn)
          repeat (first | (refine RunH ?_; intro w hL hB; try clear w) | (refine Both.mk ?_ ?_ <;> conv => whnf) | fail)
          exact ⟨k + 1, ⟨rfl, rfl, rfl, rfl, rfl, rfl, rfl, rfl, rfl, rfl, rfl, rfl, rfl, trivial⟩, ⟨hke, hB, hnone, hL.tl⟩, (by first | omega | (dsimp only; omega))⟩
        · have hpn : p.ns ≠ [] := fun e => hz (by rw [e]; rfl)
          repeat (first | (refine RunH ?_; intro w hL hB; try clear w) | (refine Both.mk ?_ ?_ <;> conv => whnf) | fail)
          refine (hrule hf hr (p, .slice na p.ns.length nc) k bw _ _ _ w (hL.blk (i := 2) rfl) (hl.below hL.below) (hs.below hL.below) (hns.below hL.below) hten (List.length_pos_iff.2 hpn) hok hcm hld).mono fun x w' hx => ?_
          rcases hx.cases with ⟨hro, rfl, hbl⟩ | ⟨a, ka, kc, ma, mc, hro, rfl, hS⟩
          · replace hL := hL.call hB (Turns.of_below hbl)
            replace hB := Nat.le_trans hB hbl.size
            have hnone := hpre.snoc hpv (atRule_none fun hn => hro)
            unfold noneV
            conv => whnf
            repeat (first | (refine RunH ?_; intro w hL hB; try clear w) | (refine Both.mk ?_ ?_ <;> conv => whnf) | fail)
            (refine Nw.sep hL hB (fun b18 w hL hB hb18 => ?_); conv => whnf)
            repeat (first | (refine RunH ?_; intro w hL hB; try clear w) | (refine Both.mk ?_ ?_ <;> conv => whnf) | fail)
            exact ⟨k + 1, ⟨rfl, rfl, rfl, rfl, rfl, rfl, rfl, rfl, rfl, rfl, rfl, rfl, rfl, trivial⟩, ⟨hke, hB, hnone, hL.tl.tl⟩, (by first | omega | (dsimp only; omega))⟩
          · replace hL := hL.adds hB hS
            replace hB := Nat.le_trans hB hS.below.size
            have hsome := hpre.some hpv (atRule_some hpn hro)
            rw [findS_some hr (fun i r hi hri => hno i r hi hri) hsome]
            unfold actV
            conv => whnf
            repeat (first | (refine RunH ?_; intro w hL hB; try clear w) | (refine Both.mk ?_ ?_ <;> conv => whnf) | fail)
            (refine Nw.sep hL hB (fun b18 w hL hB hb18 => ?_); conv => whnf)
            repeat (first | (refine RunH ?_; intro w hL hB; try clear w) | (refine Both.mk ?_ ?_ <;> conv => whnf) | fail)
            exact ActS.mk (kv := .slice ka a.keep.length kc) (nv := .slice ma a.ns.length mc) rfl rfl (hL.sub (.cons _ (.cons_cons _ (.cons_cons _ (List.nil_sublist _)))))
      · obtain rfl : k = ps.length := by omega
        have hfn := PreS.none (by rw [pvs_len]; exact hpre)
        repeat (first | (refine RunH ?_; intro w hL hB; try clear w) | (refine Both.mk ?_ ?_ <;> conv => whnf) | fail)
        refine ⟨j + 1, ⟨rfl, rfl, rfl, rfl, rfl, rfl, rfl, rfl, rfl, trivial⟩, ⟨hj5, hB, ?_, hL⟩, (by first | omega | (dsimp only; omega))⟩
        intro i r' hi hri
        by_cases e : i = j
        · subst e; rw [hr] at hri; cases hri; exact hfn
        · exact hno i r' (by omega) hri
    · obtain rfl : j = 5 := by omega
      rw [findS_none (fun i r hi => hno i r (by have := (List.getElem?_eq_some_iff.1 hi).1; omega) hi)]
      repeat (first | (refine RunH ?_; intro w hL hB; try clear w) | (refine Both.mk ?_ ?_ <;> conv => whnf) | fail)
      exact ⟨rfl, hL.below⟩
end Go.Proofs.Ythifnfoppamkiaa
