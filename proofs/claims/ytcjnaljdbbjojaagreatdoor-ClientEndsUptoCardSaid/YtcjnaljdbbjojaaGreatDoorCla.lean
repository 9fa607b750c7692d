/- client: what it is in memory; within, node, clones. Nothing is claimed here. -/
import Derived.Test.YtcjnaljdbbjojaaGreatDoorSe
import Derived.Test.YtcjnaljdbbjojaaGreatDoorMa
namespace Go.Proofs.YtcjnaljdbbjojaaGreatDoor
open Go.RowKit
open Go.Maps (Keyed)
set_option linter.unusedVariables false
set_option linter.unusedSimpArgs false
set_option maxRecDepth 100000

theorem intK : Keyed Tryz.prog 3 := Go.Maps.int_keyed Tryz.underlying3
theorem goodI {n : Int} (h : (Lit.int .i64 n).wf = true) : Good Tryz.prog 3 (.int .i64 n) := good_int Tryz.underlying3 h
theorem wfI {n : Int} (h : -1000000 ≤ n ∧ n ≤ 1000000) : (Lit.int .i64 n).wf = true := by
  simp only [Lit.wf, IntKind.min, IntKind.max, IntKind.bits, IntKind.signed, Bool.and_eq_true, decide_eq_true_eq]
  simp; omega
theorem goodS {n : Int} (h : -1000000 ≤ n ∧ n ≤ 1000000) : Good Tryz.prog 3 (.int .i64 n) := goodI (wfI h)
def numC (l : List Int) : List Value := l.map (.int .i64)
theorem numC_len (l : List Int) : (numC l).length = l.length := by simp [numC]
theorem numC_get {l : List Int} {k : Nat} {x : Int} (h : l[k]? = some x) : (numC l)[k]? = some (.int .i64 x) := by simp [numC, h]
theorem numC_app (l m : List Int) : numC (l ++ m) = numC l ++ numC m := by simp [numC]
theorem numC_one (l : List Int) : ∀ u ∈ numC l, u.oneCell' = true := by
  intro u hu
  obtain ⟨x, _, rfl⟩ := List.mem_map.1 hu
  rfl
def bR (u : Value) (l : List UInt8) : Res := .row 5 1 u l.length (bv l)
def nR (u : Value) (l : List Int) : Res := .row 3 1 u l.length (numC l)
theorem bR_sl {P : Program} {w : World} {u : Value} {l : List UInt8} (h : (bR u l).holds P w) : Sl w u (bv l) := by
  have h1 : w.ownsRow 0 5 1 u l.length (bv l) := h
  exact Sl.of_own h1
theorem nR_sl {P : Program} {w : World} {u : Value} {l : List Int} (h : (nR u l).holds P w) : Sl w u (numC l) := by
  have h1 : w.ownsRow 0 3 1 u l.length (numC l) := h
  exact Sl.of_own h1

/-- a call that is under way -/
structure QS where
  num : Int
  kind : Int
  vol : Int
  key : Int
  ck : Int
  xd : Value
  salt : Int
  step : Int
  waited : Int
  pause : Int
  tried : Int
  writes : Int
  outc : Int
  data : Value
  ep : Int
  nodes : Value
  tk : Int
  sent : Value
  master : Int
  place : Int
def qC (q : QS) : List Value := [.int .i64 q.num, .int .i64 q.kind, .int .i64 q.vol, .int .u64 q.key, .int .u32 q.ck, q.xd, .int .u32 q.salt, .int .i64 q.step, .int .i64 q.waited, .int .i64 q.pause, .int .i64 q.tried, .int .i64 q.writes, .int .i64 q.outc, q.data, .int .i64 q.ep, q.nodes, .int .i64 q.tk, q.sent, .int .i64 q.master, .int .i64 q.place, .slice none 0 0, .int .i64 0, .slice none 0 0, .bool false]
/-- the client 7 of three masters and four servers -/
def cC (g bg tk : Int) (cm : Nat) (rv ov : Value) : List Value := [.int .i64 7, .int .i64 3, .int .i64 4, .int .i64 2, .int .i64 2, .int .i64 1, .int .i64 1048576, .int .i64 4096, .int .i64 g, .int .i64 bg, .int .i64 tk, .map (some cm), rv, ov]
def cR (cb : Nat) (g bg tk : Int) (cm : Nat) (rv ov : Value) : Res := .blk cb (cC g bg tk cm rv ov) 60
def qR (qb : Nat) (q : QS) : Res := .blk qb (qC q) 70
abbrev ptrN (b : Nat) : Value := .pointer (some ⟨b, 0, none⟩)

theorem within_fn (n a b : Int) (w : World) : Fn Tryz.prog 16 #[.int .i64 n, .int .i64 a, .int .i64 b] w fun r w' => r = .bool (decide (a ≤ n ∧ n ≤ b)) ∧ w' = w := by
  refine Fn.mk Tryz.func16 rfl (by kernel_rfl) Tryz.ntmps16 rfl (by rw [Tryz.results16]) ?_
  by_cases h1 : a ≤ n
  · by_cases h2 : n ≤ b
    · refine RunR ?_
      exact ⟨by rw [decide_eq_true (p := a ≤ n ∧ n ≤ b) ⟨h1, h2⟩, decide_eq_true (show n ≤ b from h2)], rfl⟩
    · refine RunR ?_
      exact ⟨by rw [decide_eq_false (p := a ≤ n ∧ n ≤ b) (fun h => h2 h.2), decide_eq_false (show ¬ n ≤ b from h2)], rfl⟩
  · refine RunR ?_
    exact ⟨by rw [decide_eq_false (p := a ≤ n ∧ n ≤ b) (fun h => h1 h.1)], rfl⟩
section
variable {B : Nat} {w0 w : World}
theorem node_fn (cb cm : Nat) (g bg tk : Int) (rv ov : Value) (L : List Res) (n : Int) (hn : 0 ≤ n ∧ n ≤ 1000) (hL : Sep Tryz.prog B w0 w L) (hm : cR cb g bg tk cm rv ov ∈ L) (hB : B ≤ w.heap.size) :
    Fn Tryz.prog 35 #[ptrN cb, .int .i64 n] w fun r w' => r = .int .i64 (3 + n) ∧ w' = w := by
  obtain ⟨i, hi⟩ := List.mem_iff_getElem?.1 hm
  replace hL := hL.front hi
  unfold cR cC at hL
  refine Fn.mk Tryz.func35 rfl (by kernel_rfl) Tryz.ntmps35 rfl (by rw [Tryz.results35]) ?_
  repeat (first | (refine RunH ?_; intro w hL hB; try clear w) | (refine Both.mk ?_ ?_ <;> conv => whnf) | fail)
  exact ⟨rfl, rfl⟩
end
theorem clone_fn (v : Value) (l : List UInt8) (w0 : World) (hs : Sl w0 v (bv l)) (hlen : l.length ≤ 2147483648) : Fn Tryz.prog 17 #[v] w0 fun r w' => w'.ownsRow w0.heap.size 5 1 r l.length (bv l) ∧ Below w0.heap.size w0 w' := by
  have hL := Sep.start Tryz.prog w0
  have hB := Nat.le_refl w0.heap.size
  obtain ⟨a, c, rfl⟩ := hs.shape
  simp only [bv_length] at *
  refine Fn.mk Tryz.func17 rfl (by kernel_rfl) Tryz.ntmps17 rfl (by rw [Tryz.results17]) ?_
  cases a with
  | none =>
    obtain rfl : l = [] := by
      rcases hs.cases with ⟨he, hx⟩ | ⟨ad, c', he, _⟩
      · simpa [bv] using hx
      · cases he
    repeat (first | (refine RunH ?_; intro w hL hB; try clear w) | (refine Both.mk ?_ ?_ <;> conv => whnf) | fail)
    exact ⟨World.ownsRow_nil w0 _ _ _, Below.refl _ _⟩
  | some ad =>
    repeat (first | (refine RunH ?_; intro w hL hB; try clear w) | (refine Both.mk ?_ ?_ <;> conv => whnf) | fail)
    refine Rv.buildS (len := 0) (vs := []) ttOk hL tl37 tl5 rfl rfl (by intro u hu; cases hu) (by decide) (by decide) hB fun bo w hL hB => ?_
    conv => whnf
    repeat (first | (refine RunH ?_; intro w hL hB; try clear w) | (refine Both.mk ?_ ?_ <;> conv => whnf) | fail)
    refine Rv.appendS (m := l.length) ttOk hL tl37 tl5 rfl (by decide) 0 rfl (by have := (hL.sl hs rfl).toN; rw [bv_length] at this; exact this) (bv_one _) (by simp only [maxLen]; omega) (by omega) hB fun v' w hL hB => ?_
    obtain ⟨ba, bc, rfl⟩ := (show SlN w 1 v' _ _ from hL.rowN (i := 0) rfl).shape
    dsimp only [List.set] at hL
    conv => whnf
    repeat (first | (refine RunH ?_; intro w hL hB; try clear w) | (refine Both.mk ?_ ?_ <;> conv => whnf) | fail)
    have ho := hL.ownR (i := 0) rfl
    exact ⟨by simpa using ho, hL.below⟩
theorem cloneS_fn (v : Value) (l : List UInt8) (w0 : World) (hs : Sl w0 v (bv l)) (hlen : l.length ≤ 2147483648) : Fn Tryz.prog 51 #[v] w0 fun r w' => w'.ownsRow w0.heap.size 5 1 r l.length (bv l) ∧ Below w0.heap.size w0 w' := by
  have hL := Sep.start Tryz.prog w0
  have hB := Nat.le_refl w0.heap.size
  obtain ⟨a, c, rfl⟩ := hs.shape
  simp only [bv_length] at *
  refine Fn.mk Tryz.func51 rfl (by kernel_rfl) Tryz.ntmps51 rfl (by rw [Tryz.results51]) ?_
  cases a with
  | none =>
    obtain rfl : l = [] := by
      rcases hs.cases with ⟨he, hx⟩ | ⟨ad, c', he, _⟩
      · simpa [bv] using hx
      · cases he
    repeat (first | (refine RunH ?_; intro w hL hB; try clear w) | (refine Both.mk ?_ ?_ <;> conv => whnf) | fail)
    exact ⟨World.ownsRow_nil w0 _ _ _, Below.refl _ _⟩
  | some ad =>
    repeat (first | (refine RunH ?_; intro w hL hB; try clear w) | (refine Both.mk ?_ ?_ <;> conv => whnf) | fail)
    refine Rv.buildS (len := 0) (vs := []) ttOk hL tl37 tl5 rfl rfl (by intro u hu; cases hu) (by decide) (by decide) hB fun bo w hL hB => ?_
    conv => whnf
    repeat (first | (refine RunH ?_; intro w hL hB; try clear w) | (refine Both.mk ?_ ?_ <;> conv => whnf) | fail)
    refine Rv.appendS (m := l.length) ttOk hL tl37 tl5 rfl (by decide) 0 rfl (by have := (hL.sl hs rfl).toN; rw [bv_length] at this; exact this) (bv_one _) (by simp only [maxLen]; omega) (by omega) hB fun v' w hL hB => ?_
    obtain ⟨ba, bc, rfl⟩ := (show SlN w 1 v' _ _ from hL.rowN (i := 0) rfl).shape
    dsimp only [List.set] at hL
    conv => whnf
    repeat (first | (refine RunH ?_; intro w hL hB; try clear w) | (refine Both.mk ?_ ?_ <;> conv => whnf) | fail)
    have ho := hL.ownR (i := 0) rfl
    exact ⟨by simpa using ho, hL.below⟩
theorem cloneI_fn (v : Value) (l : List Int) (w0 : World) (hs : Sl w0 v (numC l)) (hlen : l.length ≤ 2147483648) : Fn Tryz.prog 34 #[v] w0 fun r w' => w'.ownsRow w0.heap.size 3 1 r l.length (numC l) ∧ Below w0.heap.size w0 w' := by
  have hL := Sep.start Tryz.prog w0
  have hB := Nat.le_refl w0.heap.size
  obtain ⟨a, c, rfl⟩ := hs.shape
  simp only [numC_len] at *
  refine Fn.mk Tryz.func34 rfl (by kernel_rfl) Tryz.ntmps34 rfl (by rw [Tryz.results34]) ?_
  cases a with
  | none =>
    obtain rfl : l = [] := by
      rcases hs.cases with ⟨he, hx⟩ | ⟨ad, c', he, _⟩
      · simpa [numC] using hx
      · cases he
    repeat (first | (refine RunH ?_; intro w hL hB; try clear w) | (refine Both.mk ?_ ?_ <;> conv => whnf) | fail)
    exact ⟨World.ownsRow_nil w0 _ _ _, Below.refl _ _⟩
  | some ad =>
    repeat (first | (refine RunH ?_; intro w hL hB; try clear w) | (refine Both.mk ?_ ?_ <;> conv => whnf) | fail)
    refine Rv.buildS (len := 0) (vs := []) ttOk hL tl40 tl3 rfl rfl (by intro u hu; cases hu) (by decide) (by decide) hB fun bo w hL hB => ?_
    conv => whnf
    repeat (first | (refine RunH ?_; intro w hL hB; try clear w) | (refine Both.mk ?_ ?_ <;> conv => whnf) | fail)
    refine Rv.appendS (m := l.length) ttOk hL tl40 tl3 rfl (by decide) 0 rfl (by have := (hL.sl hs rfl).toN; rw [numC_len] at this; exact this) (numC_one _) (by simp only [maxLen]; omega) (by omega) hB fun v' w hL hB => ?_
    obtain ⟨ba, bc, rfl⟩ := (show SlN w 1 v' _ _ from hL.rowN (i := 0) rfl).shape
    dsimp only [List.set] at hL
    conv => whnf
    repeat (first | (refine RunH ?_; intro w hL hB; try clear w) | (refine Both.mk ?_ ?_ <;> conv => whnf) | fail)
    have ho := hL.ownR (i := 0) rfl
    exact ⟨by simpa using ho, hL.below⟩

/-! ### are all numbers within? -/
theorem nodesF_fn (b : Nat) (least n : Int) (w0 : World) (hC : Blk w0 b [.int .i64 least] 3) : Fn Tryz.prog 50 #[.int .i64 n, ptrN b] w0 fun r w' => r = .bool (!decide (least ≤ n ∧ n ≤ 63)) ∧ w' = w0 := by
  have hL := Sep.start Tryz.prog w0
  have hB := Nat.le_refl w0.heap.size
  refine Fn.mk Tryz.func50 rfl (by kernel_rfl) Tryz.ntmps50 rfl (by rw [Tryz.results50]) ?_
  repeat (first | (refine RunH ?_; intro w hL hB; try clear w) | (refine Both.mk ?_ ?_ <;> conv => whnf) | (refine (within_fn _ _ _ _).mono fun r w1 hr => ?_; obtain ⟨hr, hw⟩ := hr; subst hr; subst hw; conv => whnf) | fail)
  exact ⟨rfl, rfl⟩
theorem indexF_fn (b : Nat) (least : Int) (v : Value) (ns : List Int) (w0 : World) (hC : Blk w0 b [.int .i64 least] 3) (hs : Sl w0 v (numC ns)) (hn : ∀ n ∈ ns, least ≤ n ∧ n ≤ 63) :
    Fn Tryz.prog 70 #[v, .func (.func 50) #[] #[ptrN b]] w0 fun r w' => r = .int .i64 (-1) ∧ w' = w0 := by
  have hle := hs.le
  obtain ⟨a, c, rfl⟩ := hs.shape
  rw [numC_len] at hs hle ⊢
  refine Fn.mk Tryz.func70 rfl (by kernel_rfl) Tryz.ntmps70 rfl (by rw [Tryz.results70]) ?_
  refine RunR ?_
  refine V.loop (α := Nat) (fun i => [(0, .slice a ns.length c), (1, .func (.func 50) #[] #[ptrN b]), (7, .int .i64 (ns.length : Int)), (8, .int .i64 (i : Int))])
    (fun i w' => i ≤ ns.length ∧ w' = w0) (fun i => ns.length - i) 0 ⟨rfl, rfl, rfl, rfl, trivial⟩ ⟨Nat.zero_le _, rfl⟩ ?_
  rintro i w ⟨hi, hww⟩
  subst hww
  refine RunR ?_
  refine Br.dec (fun hlt => ?_) (fun hlt => ?_)
  · have hil : i < ns.length := by omega
    have hg : ns[i]? = some ns[i] := List.getElem?_eq_getElem hil
    have hm := hn _ (List.getElem_mem hil)
    generalize ns[i] = n at *
    obtain ⟨b1, o1, rfl, hr⟩ := hs.addr (by omega)
    refine RunR ?_
    intro o3 ho3
    conv => whnf
    refine RunR ?_
    refine Ld.row1 ttOk hr rfl rfl (k := i) (numC_get hg) (by omega) ?_
    conv => whnf
    refine RunR ?_
    refine (nodesF_fn b least n _ hC).mono fun r w' ⟨hr', hw'⟩ => ?_
    subst hr'
    replace hw' := hw'.symm
    subst hw'
    rw [decide_eq_true hm]
    conv => whnf
    refine RunR ?_
    exact ⟨i + 1, ⟨rfl, rfl, rfl, rfl, trivial⟩, ⟨by omega, rfl⟩, (by first | omega | (dsimp only; omega))⟩
  · obtain rfl : i = ns.length := by omega
    refine RunR ?_
    exact ⟨rfl, rfl⟩
theorem containsF_fn (b : Nat) (least : Int) (v : Value) (ns : List Int) (w0 : World) (hC : Blk w0 b [.int .i64 least] 3) (hs : Sl w0 v (numC ns)) (hn : ∀ n ∈ ns, least ≤ n ∧ n ≤ 63) :
    Fn Tryz.prog 49 #[v, .func (.func 50) #[] #[ptrN b]] w0 fun r w' => r = .bool false ∧ w' = w0 := by
  refine Fn.mk Tryz.func49 rfl (by kernel_rfl) Tryz.ntmps49 rfl (by rw [Tryz.results49]) ?_
  refine RunR ?_
  refine (indexF_fn b least v ns _ hC hs hn).mono fun r w' ⟨hr', hw'⟩ => ?_
  subst hr'
  replace hw' := hw'.symm
  subst hw'
  conv => whnf
  refine RunR ?_
  exact ⟨rfl, rfl⟩
theorem nodes_fn (least : Int) (v : Value) (ns : List Int) (w0 : World) (hs : Sl w0 v (numC ns)) (hn : ∀ n ∈ ns, least ≤ n ∧ n ≤ 63) :
    Fn Tryz.prog 33 #[v, .int .i64 least] w0 fun r w' => r = .bool true ∧ Below w0.heap.size w0 w' := by
  have hL := Sep.start Tryz.prog w0
  have hB := Nat.le_refl w0.heap.size
  refine Fn.mk Tryz.func33 rfl (by kernel_rfl) Tryz.ntmps33 rfl (by rw [Tryz.results33]) ?_
  repeat (first | (refine RunH ?_; intro w hL hB; try clear w) | (refine Both.mk ?_ ?_ <;> conv => whnf) | fail)
  (refine Nw.sep hL hB (fun b3 w hL hB hb3 => ?_); conv => whnf)
  repeat (first | (refine RunH ?_; intro w hL hB; try clear w) | (refine Both.mk ?_ ?_ <;> conv => whnf) | fail)
  refine (containsF_fn b3 least v ns _ (hL.blk (i := 0) rfl) (hs.below hL.below) hn).mono fun r w' ⟨hr', hw'⟩ => ?_
  subst hr'
  replace hw' := hw'.symm
  subst hw'
  conv => whnf
  repeat (first | (refine RunH ?_; intro w hL hB; try clear w) | (refine Both.mk ?_ ?_ <;> conv => whnf) | fail)
  exact ⟨rfl, hL.below⟩
end Go.Proofs.YtcjnaljdbbjojaaGreatDoor
