/- Plan: volumes that may be read; the reference's lives, living, has, size, clone. Nothing is claimed here. -/
import Derived.Test.YthifnfoppamkiaaIc
import Derived.Test.YthifnfoppamkiaaSc
namespace Go.Proofs.Ythifnfoppamkiaa
open Go.RowKit
set_option linter.unusedVariables false
set_option linter.unusedSimpArgs false
set_option maxRecDepth 100000

def numC (l : List Int) : List Value := l.map (.int .i64)
def boolC (l : List Bool) : List Value := l.map .bool
theorem numC_len (l : List Int) : (numC l).length = l.length := by simp [numC]
theorem boolC_len (l : List Bool) : (boolC l).length = l.length := by simp [boolC]
theorem numC_get {l : List Int} {k : Nat} {x : Int} (h : l[k]? = some x) : (numC l)[k]? = some (.int .i64 x) := by simp [numC, h]
theorem boolC_get {l : List Bool} {k : Nat} {x : Bool} (h : l[k]? = some x) : (boolC l)[k]? = some (.bool x) := by simp [boolC, h]
theorem numC_snoc (l : List Int) (x : Int) : numC (l ++ [x]) = numC l ++ [.int .i64 x] := by simp [numC]
theorem numC_app (l m : List Int) : numC (l ++ m) = numC l ++ numC m := by simp [numC]
def pvC (p : PV × Value) : List Value := [.int .i64 p.1.id, .int .i64 p.1.st, .int .i64 p.1.ep, p.2, .bool p.1.fz, .int .i64 p.1.job]
theorem pvC_len (p : PV × Value) : (pvC p).length = 6 := rfl
/-- volumes that may be read -/
structure VolS (w : World) (v : Value) (ps : List (PV × Value)) : Prop where
  sl : SlN w 6 v ps.length (ps.flatMap pvC)
  ns : ∀ p ∈ ps, SlE w p.2 (numC p.1.ns)
  few : ps.length ≤ 60
  ten : ∀ p ∈ ps, p.1.ns.length ≤ 40
theorem VolS.below {w w' : World} {v : Value} {ps : List (PV × Value)} (h : VolS w v ps) (hb : Below w.heap.size w w') : VolS w' v ps :=
  ⟨h.sl.below hb, fun p hp => (h.ns p hp).below hb, h.few, h.ten⟩

theorem liveS_at {live : List Bool} {n : Int} {b : Bool} (h0 : 0 ≤ n) (h1 : n < 64) (h : live[n.toNat]? = some b) : liveS live n = b := by
  unfold liveS
  rw [h]; simp [h0, h1]
theorem liveS_no {live : List Bool} {n : Int} (h : ¬ (0 ≤ n ∧ n < 64 ∧ n < live.length)) : liveS live n = false := by
  cases e : liveS live n
  · rfl
  · exact absurd (liveS_lt e) h
theorem livesR_fn (v : Value) (live : List Bool) (n : Int) (w0 : World) (h : SlE w0 v (boolC live)) : Fn Try.prog 41 #[v, .int .i64 n] w0 fun r w' => r = .bool (liveS live n) ∧ w' = w0 := by
  obtain ⟨va, vc, rfl⟩ := h.shape
  have hL := Sep.start Try.prog w0
  have hB := Nat.le_refl w0.heap.size
  rw [boolC_len] at h ⊢
  refine Fn.mk Try.func41 rfl (by kernel_rfl) Try.ntmps41 rfl (by rw [Try.results41]) ?_
  by_cases h0 : 0 ≤ n
  · by_cases h1 : n < live.length
    · by_cases h2 : n < 64
      · obtain ⟨m, rfl⟩ := Int.eq_ofNat_of_zero_le h0
        obtain ⟨b, o, rfl, hr⟩ := h.sl.toN.addr (by omega)
        have hge : live[m]? = some live[m] := List.getElem?_eq_getElem (by omega)
        generalize live[m] = x at hge
        repeat (first | (refine RunH ?_; intro w hL hB; try clear w) | (refine Both.mk ?_ ?_ <;> conv => whnf) | fail)
        intro o' ho'
        conv => whnf
        repeat (first | (refine RunH ?_; intro w hL hB; try clear w) | (refine Both.mk ?_ ?_ <;> conv => whnf) | fail)
        refine Ld.row1 ttOk hr rfl rfl (k := m) (boolC_get hge) (by omega) ?_
        conv => whnf
        repeat (first | (refine RunH ?_; intro w hL hB; try clear w) | (refine Both.mk ?_ ?_ <;> conv => whnf) | fail)
        exact ⟨by rw [liveS_at h0 h2 (b := x) (by simpa using hge)], rfl⟩
      · rw [liveS_no (by omega)]
        repeat (first | (refine RunH ?_; intro w hL hB; try clear w) | (refine Both.mk ?_ ?_ <;> conv => whnf) | fail)
        exact ⟨rfl, rfl⟩
    · rw [liveS_no (by omega)]
      repeat (first | (refine RunH ?_; intro w hL hB; try clear w) | (refine Both.mk ?_ ?_ <;> conv => whnf) | fail)
      exact ⟨rfl, rfl⟩
  · rw [liveS_no (by omega)]
    repeat (first | (refine RunH ?_; intro w hL hB; try clear w) | (refine Both.mk ?_ ?_ <;> conv => whnf) | fail)
    exact ⟨rfl, rfl⟩

theorem hasR_fn (v : Value) (ns : List Int) (n : Int) (w0 : World) (h : SlE w0 v (numC ns)) : Fn Try.prog 42 #[v, .int .i64 n] w0 fun r w' => r = .bool (ns.contains n) ∧ w' = w0 := by
  obtain ⟨va, vc, rfl⟩ := h.shape
  have hle := h.le
  rw [numC_len] at h hle ⊢
  have hL := Sep.start Try.prog w0
  have hB := Nat.le_refl w0.heap.size
  refine Fn.mk Try.func42 rfl (by kernel_rfl) Try.ntmps42 rfl (by rw [Try.results42]) ?_
  repeat (first | (refine RunH ?_; intro w hL hB; try clear w) | (refine Both.mk ?_ ?_ <;> conv => whnf) | fail)
  refine V.loop (α := Nat) (fun z => [(0, .slice va ns.length vc), (1, .int .i64 n), (5, .int .i64 z)])
    (fun z w' => z ≤ ns.length ∧ w' = w0 ∧ n ∉ ns.take z) (fun z => ns.length - z) 0 ⟨rfl, rfl, rfl, trivial⟩ ⟨by simp, rfl, by simp⟩ ?_
  rintro i w ⟨hi, rfl, hn⟩
  dsimp only at *
  repeat (first | (refine RunH ?_; intro w hL hB; try clear w) | (refine Both.mk ?_ ?_ <;> conv => whnf) | fail)
  refine Br.dec (fun hlt => ?_) (fun hlt => ?_)
  · have hie : i < ns.length := by omega
    obtain ⟨b, o, rfl, hr⟩ := h.sl.toN.addr (by omega)
    have hge : ns[i]? = some ns[i] := List.getElem?_eq_getElem hie
    generalize ns[i] = x at hge
    repeat (first | (refine RunH ?_; intro w hL hB; try clear w) | (refine Both.mk ?_ ?_ <;> conv => whnf) | fail)
    intro o' ho'
    conv => whnf
    refine Ld.row1 ttOk hr rfl rfl (k := i) (numC_get hge) (by omega) ?_
    conv => whnf
    repeat (first | (refine RunH ?_; intro w hL hB; try clear w) | (refine Both.mk ?_ ?_ <;> conv => whnf) | fail)
    refine Br.dec (fun he => ?_) (fun he => ?_)
    · repeat (first | (refine RunH ?_; intro w hL hB; try clear w) | (refine Both.mk ?_ ?_ <;> conv => whnf) | fail)
      refine ⟨?_, rfl⟩
      subst he
      have : x ∈ ns := List.mem_of_getElem? hge
      simp [this]
    · repeat (first | (refine RunH ?_; intro w hL hB; try clear w) | (refine Both.mk ?_ ?_ <;> conv => whnf) | fail)
      refine ⟨i + 1, ⟨rfl, rfl, rfl, trivial⟩, ⟨hie, rfl, ?_⟩, (by first | omega | (dsimp only; omega))⟩
      obtain ⟨_, hg⟩ := List.getElem?_eq_some_iff.1 hge
      rw [List.take_succ_eq_append_getElem hie, hg]
      simp only [List.mem_append, List.mem_singleton, not_or]
      exact ⟨hn, fun e => he e.symm⟩
  · obtain rfl : i = ns.length := by omega
    rw [List.take_length] at hn
    repeat (first | (refine RunH ?_; intro w hL hB; try clear w) | (refine Both.mk ?_ ?_ <;> conv => whnf) | fail)
    exact ⟨by simp [hn], rfl⟩

theorem filter_next {α : Type} (f : α → Bool) (l : List α) {i : Nat} {x : α} (h : l[i]? = some x) : (l.take (i + 1)).filter f = (l.take i).filter f ++ (if f x then [x] else []) := by
  obtain ⟨hi, rfl⟩ := List.getElem?_eq_some_iff.1 h
  rw [List.take_succ_eq_append_getElem hi, List.filter_append]
  simp only [List.filter]
  split <;> simp_all
theorem numC_one (l : List Int) : ∀ u ∈ numC l, u.oneCell' = true := by
  intro u hu
  obtain ⟨n, _, rfl⟩ := List.mem_map.1 hu
  rfl
theorem livingR_fn (lv v : Value) (live : List Bool) (ns : List Int) (w0 : World) (hl : SlE w0 lv (boolC live)) (h : SlE w0 v (numC ns)) (hn : ns.length ≤ 1000) : Fn Try.prog 40 #[lv, v] w0 fun r w' =>
    w'.ownsRow w0.heap.size 3 1 r (livingS live ns).length (numC (livingS live ns)) ∧ Below w0.heap.size w0 w' := by
  obtain ⟨va, vc, rfl⟩ := h.shape
  obtain ⟨la, lc, rfl⟩ := hl.shape
  rw [numC_len] at h ⊢
  have hL := Sep.start Try.prog w0
  have hB := Nat.le_refl w0.heap.size
  refine Fn.mk Try.func40 rfl (by kernel_rfl) Try.ntmps40 rfl (by rw [Try.results40]) ?_
  repeat (first | (refine RunH ?_; intro w hL hB; try clear w) | (refine Both.mk ?_ ?_ <;> conv => whnf) | fail)
  refine V.loop (α := Nat × Value) (fun z => [(0, .slice la (boolC live).length lc), (1, .slice va ns.length vc), (5, z.2), (6, .int .i64 z.1)])
    (fun z w' => z.1 ≤ ns.length ∧ w0.heap.size ≤ w'.heap.size ∧ Sep Try.prog w0.heap.size w0 w' [.row 3 1 z.2 (livingS live (ns.take z.1)).length (numC (livingS live (ns.take z.1)))]) (fun z => ns.length - z.1) (0, .slice none 0 0) ⟨rfl, rfl, rfl, rfl, trivial⟩ ⟨by simp, hB, hL.nilRow 3 1⟩ ?_
  rintro ⟨i, out⟩ w ⟨hi, hB, hL⟩
  dsimp only at *
  repeat (first | (refine RunH ?_; intro w hL hB; try clear w) | (refine Both.mk ?_ ?_ <;> conv => whnf) | fail)
  refine Br.dec (fun hlt => ?_) (fun hlt => ?_)
  · have hie : i < ns.length := by omega
    have hge : ns[i]? = some ns[i] := List.getElem?_eq_getElem hie
    generalize ns[i] = x at hge
    have hsn : livingS live (ns.take (i + 1)) = livingS live (ns.take i) ++ (if liveS live x then [x] else []) := filter_next _ _ hge
    have hll : (livingS live (ns.take i)).length ≤ i := Nat.le_trans (List.length_filter_le _ _) (by simp; omega)
    generalize livingS live (ns.take i) = out' at *
    obtain ⟨b, o, rfl, hr⟩ := (h.below hL.below).sl.toN.addr (by omega)
    repeat (first | (refine RunH ?_; intro w hL hB; try clear w) | (refine Both.mk ?_ ?_ <;> conv => whnf) | fail)
    intro o' ho'
    conv => whnf
    refine Ld.row1 ttOk hr rfl rfl (k := i) (numC_get hge) (by omega) ?_
    conv => whnf
    repeat (first | (refine RunH ?_; intro w hL hB; try clear w) | (refine Both.mk ?_ ?_ <;> conv => whnf) | (refine (livesR_fn _ live _ _ (hl.below hL.below)).mono fun r w1 hr => ?_; obtain ⟨hr, hw⟩ := hr; subst hr; subst hw; conv => whnf) | fail)
    cases hlv : liveS live x
    · repeat (first | (refine RunH ?_; intro w hL hB; try clear w) | (refine Both.mk ?_ ?_ <;> conv => whnf) | fail)
      refine ⟨(i + 1, out), ⟨rfl, rfl, rfl, rfl, trivial⟩, ⟨hie, hB, ?_⟩, (by first | omega | (dsimp only; omega))⟩
      rw [hsn, hlv]
      simpa using hL
    · repeat (first | (refine RunH ?_; intro w hL hB; try clear w) | (refine Both.mk ?_ ?_ <;> conv => whnf) | fail)
      intro o' ho'
      conv => whnf
      refine Ld.row1 ttOk hr rfl rfl (k := i) (numC_get hge) (by omega) ?_
      conv => whnf
      repeat (first | (refine RunH ?_; intro w hL hB; try clear w) | (refine Both.mk ?_ ?_ <;> conv => whnf) | fail)
      refine Rv.buildS ttOk hL tl24 tl3 rfl rfl (by intro u hu; simp only [List.mem_singleton] at hu; subst hu; rfl) (by decide) (by decide) hB fun bo w hL hB => ?_
      conv => whnf
      refine Rv.appendS ttOk hL tl24 tl3 rfl (by decide) 1 rfl (hL.rowN (i := 0) rfl) (allOne_mem rfl) (by simp only [maxLen]; omega) (by omega) hB fun vo w hL hB => ?_
      dsimp only [List.set] at hL
      conv => whnf
      repeat (first | (refine RunH ?_; intro w hL hB; try clear w) | (refine Both.mk ?_ ?_ <;> conv => whnf) | fail)
      refine ⟨(i + 1, vo), ⟨rfl, rfl, rfl, rfl, trivial⟩, ⟨hie, hB, ?_⟩, (by first | omega | (dsimp only; omega))⟩
      rw [hsn, hlv]
      simp only [if_true, numC_snoc, List.length_append]
      exact hL.tl
  · obtain rfl : i = ns.length := by omega
    rw [List.take_length] at hL
    repeat (first | (refine RunH ?_; intro w hL hB; try clear w) | (refine Both.mk ?_ ?_ <;> conv => whnf) | fail)
    exact ⟨own_raise (hL.at (i := 0) rfl) fun b hb => hL.own _ (List.mem_cons_self ..) b (mem_rowB.2 hb), hL.below⟩
end Go.Proofs.Ythifnfoppamkiaa
