/- shard.Mend. Nothing is claimed here. -/
import Derived.Test.YtlldgodjfpgbcaaDoorGg
namespace Go.Proofs.YtlldgodjfpgbcaaDoor
open Go.RowKit
open Go.Maps (Keyed)
set_option linter.unusedVariables false
set_option linter.unusedSimpArgs false
set_option maxRecDepth 100000

theorem selS_len {k : Nat} {rows : List (List UInt8)} {n : Nat} (hr : rows.length = n) : (selS k rows).length = min k (cnt_ rows n) := by rw [← selP_all hr, selP_len]
/-- what shard.Mend gives -/
def MendGot (k m N : Nat) (rows : List (List UInt8)) (w0 : World) (r : Value) (w' : World) : Prop :=
  if (selS k rows).length < k then r = .tuple #[.slice none 0 0, .int .i64 15] else ∃ u out, MendR k m N rows out ∧ Mat w' w0.heap.size u out ∧ r = .tuple #[u, .int .i64 0]
set_option maxHeartbeats 8000000 in
theorem smend_fn (k m N : Nat) (v : Value) (rows : List (List UInt8)) (h1 : 1 ≤ k) (h2 : k + m ≤ 14) (hr : rows.length = k + m) (hN : ∀ l ∈ rows, l ≠ [] → l.length = N) (hN0 : N ≤ 1000000) (w0 : World) (hT : TabAt 0 Go.Lib.deBruijn64tab w0) (hv : SS w0 v rows) :
    Fn Tryd.prog 19 #[v, .int .i64 (k : Int), .int .i64 (m : Int)] w0 fun r w' => MendGot k m N rows w0 r w' ∧ Below w0.heap.size w0 w' := by
  have hsl := selS_len (k := k) hr
  have hcl := cnt_le rows (k + m)
  unfold MendGot
  refine Fn.mk Tryd.func19 rfl (by kernel_rfl) Tryd.ntmps19 rfl (by rw [Tryd.results19]) ?_
  refine RunR ?_
  refine (begins_fn v rows k m N h1 h2 hr hN w0 hv).mono fun r w2 ⟨w1, b, mb, cv, hru, hbl, hcode, hL⟩ => ?_
  subst hru
  have hbt := bits_lt rows (k + m)
  generalize hcn : cnt_ rows (k + m) = cn at *
  by_cases hk : cn < k
  · conv => whnf
    refine RunR ?_
    exact ⟨by rw [if_pos (by omega)], hbl.trans (hL.below.mono hbl.size)⟩
  · conv => whnf
    refine RunR ?_
    refine (mend_fn b mb k m N cv v rows h1 h2 hr (by omega) hN hN0 w1 _ (tabAt_below hT hbl) hcode (hv.below hbl) hL hL.below.size).mono fun r w' ⟨out, hm, hmat, hbl2⟩ => ?_
    conv => whnf
    refine RunR ?_
    exact ⟨by rw [if_neg (by omega)]; exact ⟨_, out, hm, hmat.mono hbl.size, rfl⟩, hbl.trans (hbl2.mono hbl.size)⟩
end Go.Proofs.YtlldgodjfpgbcaaDoor
