/- shard.begins. Nothing is claimed here. -/
import Derived.Test.YtlldgodjfpgbcaaDoorGd
namespace Go.Proofs.YtlldgodjfpgbcaaDoor
open Go.RowKit
open Go.Maps (Keyed)
set_option linter.unusedVariables false
set_option linter.unusedSimpArgs false
set_option maxRecDepth 100000

set_option maxHeartbeats 8000000 in
theorem begins_fn (v : Value) (rows : List (List UInt8)) (k m N : Nat) (h1 : 1 ≤ k) (h2 : k + m ≤ 14) (hr : rows.length = k + m) (hN : ∀ l ∈ rows, l ≠ [] → l.length = N) (w0 : World) (hs : SS w0 v rows) :
    Fn Tryd.prog 32 #[v, .int .i64 (k : Int), .int .i64 (m : Int)] w0 fun r w' => ∃ w1 b mb cv, r = .tuple #[.pointer (some ⟨b, 0, none⟩), .int .u32 (bits_ rows (k + m) : Nat), .int .i64 (cnt_ rows (k + m) : Nat), .int .i64 0] ∧ Below w0.heap.size w0 w1 ∧ SS w1 cv (codeM k m) ∧ Sep Tryd.prog w1.heap.size w1 w' [.blk b [.int .i64 (k : Int), .int .i64 (m : Int), cv, .map (some mb)] 82, .mp 94 mb []] := by
  obtain ⟨cs, hcs, hci⟩ := hs.of
  have hcl := hci.len
  obtain ⟨a, cp, rfl⟩ := hcs.shape
  rw [hcl, hr] at hcs ⊢
  obtain ⟨b1, o1, rfl, hr1⟩ := hcs.addr (by omega)
  have hL := Sep.start Tryd.prog w0
  have hB := Nat.le_refl w0.heap.size
  refine Fn.mk Tryd.func32 rfl (by kernel_rfl) Tryd.ntmps32 rfl (by rw [Tryd.results32]) ?_
  repeat (first | (refine RunH ?_; intro w hL hB; try clear w) | (refine Both.mk ?_ ?_ <;> conv => whnf) | fail)
  refine (code_fn k m h1 h2 _).mono fun r w1 ⟨cv, hru, hmat, hbl⟩ => ?_
  subst hru
  have hcode := hmat.ss
  obtain ⟨ca, cc, rfl⟩ : ∃ a c, cv = .slice a (k + m) c := by
    obtain ⟨us, q1, q2⟩ := hcode.of
    obtain ⟨a, c, rfl⟩ := q1.shape
    exact ⟨a, c, by rw [q2.len, codeM_len]⟩
  clear hL hB hmat
  have hL := Sep.start Tryd.prog w1
  have hB := Nat.le_refl w1.heap.size
  have hci1 := hci.below hbl
  have hr1 := (hcs.below hbl).toN.rowOf
  conv => whnf
  repeat (first | (refine RunH ?_; intro w hL hB; try clear w) | (refine Both.mk ?_ ?_ <;> conv => whnf) | fail)
  refine V.loop (α := Nat) (fun i => [(1, .int .i64 (k : Int)), (2, .int .i64 (m : Int)), (10, .slice ca (k + m) cc), (12, .int .u32 (bits_ rows i : Nat)), (13, .int .i64 (cnt_ rows i : Nat)), (14, .int .i64 ((if cnt_ rows i = 0 then 0 else N : Nat) : Int)), (33, .slice (some ⟨b1, o1, none⟩) (k + m) cp), (34, .int .i64 ((k + m : Nat) : Int)), (35, .int .i64 (i : Int))])
    (fun i w' => i ≤ k + m ∧ w' = w1) (fun i => k + m - i) 0 ⟨rfl, rfl, rfl, rfl, rfl, rfl, rfl, rfl, rfl, trivial⟩ ⟨Nat.zero_le _, rfl⟩ ?_
  rintro i w ⟨hi, hww⟩
  subst hww
  repeat (first | (refine RunH ?_; intro w hL hB; try clear w) | (refine Both.mk ?_ ?_ <;> conv => whnf) | fail)
  refine Br.dec (fun hlt => ?_) (fun hlt => ?_)
  · have hin : i < k + m := by omega
    obtain ⟨ui, hui, hsi⟩ := hci1.get (rw_some (show i < rows.length by omega))
    obtain ⟨ai, ci, rfl⟩ := hsi.shape
    rw [bv_length] at hui
    have hcs' := cnt_succ rows i
    have hbs : bits_ rows (i + 1) = if rw_ rows i = [] then bits_ rows i else bits_ rows i ||| 2 ^ i := rfl
    have hcle := cnt_le rows i
    repeat (first | (refine RunH ?_; intro w hL hB; try clear w) | (refine Both.mk ?_ ?_ <;> conv => whnf) | fail)
    intro o3 ho3
    conv => whnf
    repeat (first | (refine RunH ?_; intro w hL hB; try clear w) | (refine Both.mk ?_ ?_ <;> conv => whnf) | fail)
    refine Ld.row1 ttOk hr1 rfl rfl (k := i) hui (by omega) ?_
    conv => whnf
    by_cases he : rw_ rows i = []
    · rw [if_pos he] at hcs' hbs
      rw [he]
      repeat (first | (refine RunH ?_; intro w hL hB; try clear w) | (refine Both.mk ?_ ?_ <;> conv => whnf) | fail)
      refine ⟨i + 1, ⟨rfl, rfl, rfl, ?_, ?_, ?_, rfl, rfl, rfl, trivial⟩, ⟨by omega, rfl⟩, (by first | omega | (dsimp only; omega))⟩
      · rw [hbs]; rfl
      · rw [hcs']; rfl
      · rw [hcs']; rfl
    · rw [if_neg he] at hcs' hbs
      have hlen := hN _ (rw_mem (by omega)) he
      have hpos := List.length_pos_iff.2 he
      rw [hlen] at hpos ⊢
      have hb32 := bits_lt rows i
      have hp1 : 2 ^ i ≤ 2 ^ 13 := Nat.pow_le_pow_right (by decide : 0 < 2) (by omega)
      have h14 : cnt_ rows i = 0 ∨ (if cnt_ rows i = 0 then 0 else N : Nat) = N := by
        by_cases h : cnt_ rows i = 0
        · exact .inl h
        · exact .inr (if_neg h)
      have h15 : (if cnt_ rows (i + 1) = 0 then 0 else N : Nat) = N := if_neg (by omega)
      generalize (if cnt_ rows i = 0 then 0 else N : Nat) = z at *
      repeat' (first | (refine RunH ?_; intro w hL hB; try clear w) | (refine Br.dec (fun hbr => ?_) (fun hbr => ?_) <;> conv => whnf) | (refine Br.mk (fun hbr => ?_) (fun hbr => ?_) <;> conv => whnf) | (refine Both.mk ?_ ?_ <;> conv => whnf) | fail)
      all_goals first
        | (exfalso; omega)
        | skip
      all_goals
        refine Shl.u32 i (2 ^ i) rfl (by omega) rfl ?_
        generalize 2 ^ i = q at *
        refine Ar.u32 (by omega) (by omega) ?_
        rw [Int.one_mul]
        conv => whnf
        repeat (first | (refine RunH ?_; intro w hL hB; try clear w) | (refine Both.mk ?_ ?_ <;> conv => whnf) | fail)
        refine Bt.or32 (bits_ rows i) q rfl rfl (by omega) (by omega) ?_
        conv => whnf
        repeat (first | (refine RunH ?_; intro w hL hB; try clear w) | (refine Both.mk ?_ ?_ <;> conv => whnf) | fail)
        refine ⟨i + 1, ⟨rfl, rfl, rfl, ?_, ?_, ?_, rfl, rfl, rfl, trivial⟩, ⟨by omega, rfl⟩, (by first | omega | (dsimp only; omega))⟩
        · rw [hbs]; rfl
        · rw [hcs']; rfl
        · rw [h15]; rfl
  · obtain rfl : i = k + m := by omega
    repeat (first | (refine RunH ?_; intro w hL hB; try clear w) | (refine Both.mk ?_ ?_ <;> conv => whnf) | fail)
    refine Nw.sepM hL 94 hB fun mb w hL hB _ => ?_
    conv => whnf
    repeat (first | (refine RunH ?_; intro w hL hB; try clear w) | (refine Both.mk ?_ ?_ <;> conv => whnf) | fail)
    (refine Nw.sep hL hB (fun bw w hL hB hbw => ?_); conv => whnf)
    repeat (first | (refine RunH ?_; intro w hL hB; try clear w) | (refine Both.mk ?_ ?_ <;> conv => whnf) | fail)
    exact ⟨_, bw, mb, .slice ca (k + m) cc, rfl, hbl, hcode, hL⟩
end Go.Proofs.YtlldgodjfpgbcaaDoor
