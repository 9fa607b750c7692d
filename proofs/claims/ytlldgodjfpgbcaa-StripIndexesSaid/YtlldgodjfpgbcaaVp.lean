/- Operations of a region that leave the world alone, run by reduction. Nothing is claimed here. -/
import Derived.Test.YtlldgodjfpgbcaaRun
namespace Go.Proofs.Ytlldgodjfpgbcaa
set_option linter.unusedVariables false
set_option linter.unusedSimpArgs false

def lget {α : Type} : List α → Nat → Option α
  | [], _ => none
  | x :: _, 0 => some x
  | _ :: xs, n + 1 => lget xs n
theorem lget_eq {α : Type} : ∀ (l : List α) (n : Nat), lget l n = l[n]?
  | [], _ => by simp [lget]
  | _ :: _, 0 => by simp [lget]
  | _ :: xs, n + 1 => by simp [lget, lget_eq xs n]

/-- a part of a struct's or an array's cells -/
def partV (T : Tab) (t : TypeId) (cs : Array Value) (off : Nat) (K : Value → Prop) : Prop :=
  match look T t with
  | some ⟨sh, sz, _, _⟩ => match sh.agg with
    | true => K (.agg ((cs.toList.drop off).take sz).toArray)
    | false => match lget cs.toList off with
      | some v => K v
      | none => False
  | none => False

theorem partV_gives {P : Program} {T : Tab} (hT : TabOk P T) {t : TypeId} {cs : Array Value} {off : Nat} {K : Value → Prop} (h : partV T t cs off K) : Gives P (part t cs off) K := by
  unfold partV at h
  split at h
  · rename_i sh sz by' z hl
    have ht := hT _ _ hl
    split at h
    · rename_i hagg
      refine ⟨_, fun w => ?_, h⟩
      have ha := ht.run_agg w
      simp only [hagg] at ha
      simp only [part, Sem.run_bind, ha, Result.andThen_ok, if_true, ht.run_size w, Sem.run_pure]
      have he : cs.extract off (off + sz) = ((cs.toList.drop off).take sz).toArray := by
        apply Array.ext'
        simp [List.extract_eq_take_drop]
      rw [he]
    · rename_i hagg
      split at h
      · rename_i v hv
        refine ⟨_, fun w => ?_, h⟩
        have ha := ht.run_agg w
        simp only [hagg] at ha
        have hv' : cs[off]? = some v := by rw [lget_eq] at hv; simpa using hv
        simp [part, Sem.run_bind, ha, hv']
      · exact h.elim
  · exact h.elim

/-- the builtins that only compute -/
def bpureV (T : Tab) (b : Builtin) (ts : List TypeId) (vs : List Value) (K : Value → Prop) : Prop :=
  match b, ts, vs with
  | .len, [t], [v] => match look T t with
    | some ⟨sh, _, _, _⟩ => match sh, v with
      | .str, .string s => K (.int .i64 s.size)
      | .slice _, .slice _ n _ => K (.int .i64 n)
      | .array n _, _ => K (.int .i64 n)
      | .map _ _, .map none => K (.int .i64 0)
      | _, _ => False
    | none => False
  | .cap, [t], [v] => match look T t with
    | some ⟨sh, _, _, _⟩ => match sh, v with
      | .slice _, .slice _ _ c => K (.int .i64 c)
      | _, _ => False
    | none => False
  | .min, _, [.int k x, .int k' y] => K (.int k (min x y))
  | .max, _, [.int k x, .int k' y] => K (.int k (max x y))
  | _, _, _ => False

theorem shOf_cases {P : Program} {T : Tab} (hT : TabOk P T) {t : TypeId} {d : Td} (hl : look T t = some d) : ∃ u, P.underlying t = some u ∧ shOf u = d.sh := (hT _ _ hl).und

theorem bpureV_gives {P : Program} {T : Tab} (hT : TabOk P T) {b : Builtin} {ats : Array TypeId} {ty : TypeId} {cs : Array Bool} {vs : List Value} {K : Value → Prop}
    (h : bpureV T b ats.toList vs K) : ∃ v, (∀ w, (builtin b ats ty cs vs.toArray).run P w = .ok (.value v) w) ∧ K v := by
  unfold bpureV at h
  split at h
  · rename_i t v hts
    obtain rfl : ats = #[t] := by cases ats; simp at hts; simp [hts]
    split at h
    · rename_i sh _ _ _ hl
      obtain ⟨u, hu, hs⟩ := shOf_cases hT hl
      split at h
      · rename_i s
        cases u <;> simp only [shOf, reduceCtorEq] at hs
        exact ⟨_, fun w => by simp [BigFrame.builtin_len, Builtin.len_, run_underlying hu, goInt], h⟩
      · cases u <;> simp only [shOf, reduceCtorEq] at hs
        exact ⟨_, fun w => by simp [BigFrame.builtin_len, Builtin.len_, run_underlying hu, goInt], h⟩
      · rename_i n' e'
        cases u <;> simp only [shOf, reduceCtorEq, Sh.array.injEq] at hs
        obtain ⟨rfl, rfl⟩ := hs
        exact ⟨_, fun w => by simp [BigFrame.builtin_len, Builtin.len_, run_underlying hu, goInt], h⟩
      · cases u <;> simp only [shOf, reduceCtorEq] at hs
        exact ⟨_, fun w => by simp [BigFrame.builtin_len, Builtin.len_, run_underlying hu, goInt], h⟩
      · exact h.elim
    · exact h.elim
  · rename_i t v hts
    obtain rfl : ats = #[t] := by cases ats; simp at hts; simp [hts]
    split at h
    · rename_i sh _ _ _ hl
      obtain ⟨u, hu, hs⟩ := shOf_cases hT hl
      split at h
      · cases u <;> simp only [shOf, reduceCtorEq] at hs
        exact ⟨_, fun w => by simp [BigFrame.builtin_cap, Builtin.cap_, run_underlying hu, goInt], h⟩
      · exact h.elim
    · exact h.elim
  · rename_i k x k' y
    have he : (if y < x then y else x) = min x y := by rw [Int.min_def]; split <;> split <;> omega
    exact ⟨_, fun w => by simp [BigFrame.builtin_min, Builtin.min_, List.foldlM, Builtin.min2, he], h⟩
  · rename_i k x k' y
    have he : (if x < y then y else x) = max x y := by rw [Int.max_def]; split <;> split <;> omega
    exact ⟨_, fun w => by simp [BigFrame.builtin_max, Builtin.max_, List.foldlM, Builtin.max2, he], h⟩
  · exact h.elim

end Go.Proofs.Ytlldgodjfpgbcaa
