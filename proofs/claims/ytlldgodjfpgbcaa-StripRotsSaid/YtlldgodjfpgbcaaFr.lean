/- garnerref14.File. Nothing is claimed here. -/
import Derived.Test.YtlldgodjfpgbcaaF
namespace Go.Proofs.Ytlldgodjfpgbcaa
open Go.RowKit
set_option linter.unusedVariables false
set_option linter.unusedSimpArgs false
set_option maxRecDepth 100000

theorem fileR_bad (id i size : Int) (v : Value) (l : List UInt8) (h : ¬ okF id i size l.length) (w : World) (hs : Sl w v (bv l)) :
    Fn Try.prog 19 #[.int .i64 id, .int .i64 i, .int .i64 size, v] w fun r w' => r = .tuple #[.slice none 0 0, .int .i64 1] ∧ w' = w := by
  obtain ⟨a, cp, rfl⟩ := hs.shape
  simp only [bv_length] at *
  refine Fn.mk Try.func19 rfl (by kernel_rfl) Try.ntmps19 rfl (by rw [Try.results19]) ?_
  by_cases h1 : id < 0
  · repeat (first | refine V.seq ?_ | (refine V.reg ttOk ?_; conv => whnf) | refine V.cnd rfl ?_ | refine V.blk ?_ | (refine V.ext ?_; conv => whnf) | (refine V.rt ?_; conv => whnf) | (refine V.skp ?_; conv => whnf) | (refine V.lab ?_; conv => whnf) | (refine Ar.i64 (by omega) (by omega) ?_; conv => whnf) | (refine Ar.u64 (by omega) (by omega) ?_; conv => whnf) | (refine Ar.u32 (by omega) (by omega) ?_; conv => whnf) | (refine Ar.u8 (by omega) (by omega) ?_; conv => whnf) | (refine Br.tt ?_; conv => whnf) | (refine Br.ff ?_; conv => whnf) | refine Br.not ?_ | (refine Br.yes (by assumption) ?_; conv => whnf) | (refine Br.no (by assumption) ?_; conv => whnf) | (refine Br.dec_t (by omega) ?_; conv => whnf) | (refine Br.dec_f (by omega) ?_; conv => whnf) | (refine Chk.mk (by omega) ?_; conv => whnf))
    exact ⟨rfl, rfl⟩
  by_cases h2 : 2147483647 < id
  · repeat (first | refine V.seq ?_ | (refine V.reg ttOk ?_; conv => whnf) | refine V.cnd rfl ?_ | refine V.blk ?_ | (refine V.ext ?_; conv => whnf) | (refine V.rt ?_; conv => whnf) | (refine V.skp ?_; conv => whnf) | (refine V.lab ?_; conv => whnf) | (refine Ar.i64 (by omega) (by omega) ?_; conv => whnf) | (refine Ar.u64 (by omega) (by omega) ?_; conv => whnf) | (refine Ar.u32 (by omega) (by omega) ?_; conv => whnf) | (refine Ar.u8 (by omega) (by omega) ?_; conv => whnf) | (refine Br.tt ?_; conv => whnf) | (refine Br.ff ?_; conv => whnf) | refine Br.not ?_ | (refine Br.yes (by assumption) ?_; conv => whnf) | (refine Br.no (by assumption) ?_; conv => whnf) | (refine Br.dec_t (by omega) ?_; conv => whnf) | (refine Br.dec_f (by omega) ?_; conv => whnf) | (refine Chk.mk (by omega) ?_; conv => whnf))
    exact ⟨rfl, rfl⟩
  by_cases h3 : i < 0
  · repeat (first | refine V.seq ?_ | (refine V.reg ttOk ?_; conv => whnf) | refine V.cnd rfl ?_ | refine V.blk ?_ | (refine V.ext ?_; conv => whnf) | (refine V.rt ?_; conv => whnf) | (refine V.skp ?_; conv => whnf) | (refine V.lab ?_; conv => whnf) | (refine Ar.i64 (by omega) (by omega) ?_; conv => whnf) | (refine Ar.u64 (by omega) (by omega) ?_; conv => whnf) | (refine Ar.u32 (by omega) (by omega) ?_; conv => whnf) | (refine Ar.u8 (by omega) (by omega) ?_; conv => whnf) | (refine Br.tt ?_; conv => whnf) | (refine Br.ff ?_; conv => whnf) | refine Br.not ?_ | (refine Br.yes (by assumption) ?_; conv => whnf) | (refine Br.no (by assumption) ?_; conv => whnf) | (refine Br.dec_t (by omega) ?_; conv => whnf) | (refine Br.dec_f (by omega) ?_; conv => whnf) | (refine Chk.mk (by omega) ?_; conv => whnf))
    exact ⟨rfl, rfl⟩
  by_cases h4 : 2147483647 < i
  · repeat (first | refine V.seq ?_ | (refine V.reg ttOk ?_; conv => whnf) | refine V.cnd rfl ?_ | refine V.blk ?_ | (refine V.ext ?_; conv => whnf) | (refine V.rt ?_; conv => whnf) | (refine V.skp ?_; conv => whnf) | (refine V.lab ?_; conv => whnf) | (refine Ar.i64 (by omega) (by omega) ?_; conv => whnf) | (refine Ar.u64 (by omega) (by omega) ?_; conv => whnf) | (refine Ar.u32 (by omega) (by omega) ?_; conv => whnf) | (refine Ar.u8 (by omega) (by omega) ?_; conv => whnf) | (refine Br.tt ?_; conv => whnf) | (refine Br.ff ?_; conv => whnf) | refine Br.not ?_ | (refine Br.yes (by assumption) ?_; conv => whnf) | (refine Br.no (by assumption) ?_; conv => whnf) | (refine Br.dec_t (by omega) ?_; conv => whnf) | (refine Br.dec_f (by omega) ?_; conv => whnf) | (refine Chk.mk (by omega) ?_; conv => whnf))
    exact ⟨rfl, rfl⟩
  by_cases h5 : size < 1
  · repeat (first | refine V.seq ?_ | (refine V.reg ttOk ?_; conv => whnf) | refine V.cnd rfl ?_ | refine V.blk ?_ | (refine V.ext ?_; conv => whnf) | (refine V.rt ?_; conv => whnf) | (refine V.skp ?_; conv => whnf) | (refine V.lab ?_; conv => whnf) | (refine Ar.i64 (by omega) (by omega) ?_; conv => whnf) | (refine Ar.u64 (by omega) (by omega) ?_; conv => whnf) | (refine Ar.u32 (by omega) (by omega) ?_; conv => whnf) | (refine Ar.u8 (by omega) (by omega) ?_; conv => whnf) | (refine Br.tt ?_; conv => whnf) | (refine Br.ff ?_; conv => whnf) | refine Br.not ?_ | (refine Br.yes (by assumption) ?_; conv => whnf) | (refine Br.no (by assumption) ?_; conv => whnf) | (refine Br.dec_t (by omega) ?_; conv => whnf) | (refine Br.dec_f (by omega) ?_; conv => whnf) | (refine Chk.mk (by omega) ?_; conv => whnf))
    exact ⟨rfl, rfl⟩
  by_cases h6 : 4194304 < size
  · repeat (first | refine V.seq ?_ | (refine V.reg ttOk ?_; conv => whnf) | refine V.cnd rfl ?_ | refine V.blk ?_ | (refine V.ext ?_; conv => whnf) | (refine V.rt ?_; conv => whnf) | (refine V.skp ?_; conv => whnf) | (refine V.lab ?_; conv => whnf) | (refine Ar.i64 (by omega) (by omega) ?_; conv => whnf) | (refine Ar.u64 (by omega) (by omega) ?_; conv => whnf) | (refine Ar.u32 (by omega) (by omega) ?_; conv => whnf) | (refine Ar.u8 (by omega) (by omega) ?_; conv => whnf) | (refine Br.tt ?_; conv => whnf) | (refine Br.ff ?_; conv => whnf) | refine Br.not ?_ | (refine Br.yes (by assumption) ?_; conv => whnf) | (refine Br.no (by assumption) ?_; conv => whnf) | (refine Br.dec_t (by omega) ?_; conv => whnf) | (refine Br.dec_f (by omega) ?_; conv => whnf) | (refine Chk.mk (by omega) ?_; conv => whnf))
    exact ⟨rfl, rfl⟩
  by_cases h7 : l.length = 0
  · repeat (first | refine V.seq ?_ | (refine V.reg ttOk ?_; conv => whnf) | refine V.cnd rfl ?_ | refine V.blk ?_ | (refine V.ext ?_; conv => whnf) | (refine V.rt ?_; conv => whnf) | (refine V.skp ?_; conv => whnf) | (refine V.lab ?_; conv => whnf) | (refine Ar.i64 (by omega) (by omega) ?_; conv => whnf) | (refine Ar.u64 (by omega) (by omega) ?_; conv => whnf) | (refine Ar.u32 (by omega) (by omega) ?_; conv => whnf) | (refine Ar.u8 (by omega) (by omega) ?_; conv => whnf) | (refine Br.tt ?_; conv => whnf) | (refine Br.ff ?_; conv => whnf) | refine Br.not ?_ | (refine Br.yes (by assumption) ?_; conv => whnf) | (refine Br.no (by assumption) ?_; conv => whnf) | (refine Br.dec_t (by omega) ?_; conv => whnf) | (refine Br.dec_f (by omega) ?_; conv => whnf) | (refine Chk.mk (by omega) ?_; conv => whnf))
    exact ⟨rfl, rfl⟩
  have h8 : l.length % 16 ≠ 0 := fun h8 => h ⟨⟨by omega, by omega⟩, ⟨by omega, by omega⟩, by omega, by omega, h7, h8⟩
  repeat (first | refine V.seq ?_ | (refine V.reg ttOk ?_; conv => whnf) | refine V.cnd rfl ?_ | refine V.blk ?_ | (refine V.ext ?_; conv => whnf) | (refine V.rt ?_; conv => whnf) | (refine V.skp ?_; conv => whnf) | (refine V.lab ?_; conv => whnf) | (refine Ar.i64 (by omega) (by omega) ?_; conv => whnf) | (refine Ar.u64 (by omega) (by omega) ?_; conv => whnf) | (refine Ar.u32 (by omega) (by omega) ?_; conv => whnf) | (refine Ar.u8 (by omega) (by omega) ?_; conv => whnf) | (refine Br.tt ?_; conv => whnf) | (refine Br.ff ?_; conv => whnf) | refine Br.not ?_ | (refine Br.yes (by assumption) ?_; conv => whnf) | (refine Br.no (by assumption) ?_; conv => whnf) | (refine Br.dec_t (by omega) ?_; conv => whnf) | (refine Br.dec_f (by omega) ?_; conv => whnf) | (refine Chk.mk (by omega) ?_; conv => whnf))
  refine Rem.at l.length 16 rfl rfl (by decide) ?_
  conv => whnf
  repeat (first | refine V.seq ?_ | (refine V.reg ttOk ?_; conv => whnf) | refine V.cnd rfl ?_ | refine V.blk ?_ | (refine V.ext ?_; conv => whnf) | (refine V.rt ?_; conv => whnf) | (refine V.skp ?_; conv => whnf) | (refine V.lab ?_; conv => whnf) | (refine Ar.i64 (by omega) (by omega) ?_; conv => whnf) | (refine Ar.u64 (by omega) (by omega) ?_; conv => whnf) | (refine Ar.u32 (by omega) (by omega) ?_; conv => whnf) | (refine Ar.u8 (by omega) (by omega) ?_; conv => whnf) | (refine Br.tt ?_; conv => whnf) | (refine Br.ff ?_; conv => whnf) | refine Br.not ?_ | (refine Br.yes (by assumption) ?_; conv => whnf) | (refine Br.no (by assumption) ?_; conv => whnf) | (refine Br.dec_t (by omega) ?_; conv => whnf) | (refine Br.dec_f (by omega) ?_; conv => whnf) | (refine Chk.mk (by omega) ?_; conv => whnf))
  exact ⟨rfl, rfl⟩

theorem fileR_fn (id i size : Nat) (v : Value) (l : List UInt8) (h : okF id i size l.length) (hl : l.length ≤ 1000000) (w : World) (hs : Sl w v (bv l)) :
    Fn Try.prog 19 #[.int .i64 id, .int .i64 i, .int .i64 size, v] w fun r w' => ∃ u, r = .tuple #[u, .int .i64 0] ∧ w'.ownsRow w.heap.size 5 1 u (fileB id i size l).length (bv (fileB id i size l)) ∧ Below w.heap.size w w' := by
  obtain ⟨hid, hi, hz1, hz2, hl0, hl16⟩ := h
  have hlen : l.length = 16 * (l.length / 16) := by omega
  obtain ⟨a, cp, rfl⟩ := hs.shape
  simp only [bv_length] at *
  generalize hN : l.length / 16 = N at *
  refine Fn.mk Try.func19 rfl (by kernel_rfl) Try.ntmps19 rfl (by rw [Try.results19]) ?_
  repeat (first | refine V.seq ?_ | (refine V.reg ttOk ?_; conv => whnf) | refine V.cnd rfl ?_ | refine V.blk ?_ | (refine V.ext ?_; conv => whnf) | (refine V.rt ?_; conv => whnf) | (refine V.skp ?_; conv => whnf) | (refine V.lab ?_; conv => whnf) | (refine Ar.i64 (by omega) (by omega) ?_; conv => whnf) | (refine Ar.u64 (by omega) (by omega) ?_; conv => whnf) | (refine Ar.u32 (by omega) (by omega) ?_; conv => whnf) | (refine Ar.u8 (by omega) (by omega) ?_; conv => whnf) | (refine Br.tt ?_; conv => whnf) | (refine Br.ff ?_; conv => whnf) | refine Br.not ?_ | (refine Br.yes (by assumption) ?_; conv => whnf) | (refine Br.no (by assumption) ?_; conv => whnf) | (refine Br.dec_t (by omega) ?_; conv => whnf) | (refine Br.dec_f (by omega) ?_; conv => whnf) | (refine Chk.mk (by omega) ?_; conv => whnf))
  refine Rem.at l.length 16 rfl rfl (by decide) ?_
  conv => whnf
  repeat (first | refine V.seq ?_ | (refine V.reg ttOk ?_; conv => whnf) | refine V.cnd rfl ?_ | refine V.blk ?_ | (refine V.ext ?_; conv => whnf) | (refine V.rt ?_; conv => whnf) | (refine V.skp ?_; conv => whnf) | (refine V.lab ?_; conv => whnf) | (refine Ar.i64 (by omega) (by omega) ?_; conv => whnf) | (refine Ar.u64 (by omega) (by omega) ?_; conv => whnf) | (refine Ar.u32 (by omega) (by omega) ?_; conv => whnf) | (refine Ar.u8 (by omega) (by omega) ?_; conv => whnf) | (refine Br.tt ?_; conv => whnf) | (refine Br.ff ?_; conv => whnf) | refine Br.not ?_ | (refine Br.yes (by assumption) ?_; conv => whnf) | (refine Br.no (by assumption) ?_; conv => whnf) | (refine Br.dec_t (by omega) ?_; conv => whnf) | (refine Br.dec_f (by omega) ?_; conv => whnf) | (refine Chk.mk (by omega) ?_; conv => whnf))
  refine Rv.build ttOk tl22 tl5 rfl rfl (by simp [cellsL]) (by decide) (by decide) fun w1 ho1 hg1 _ => ?_
  have b1 : Below w.heap.size w w1 := below_of_grown0 hg1 (Nat.le_refl _)
  have ho1' : w1.ownsRow w.heap.size 5 1 (.slice (some ⟨w.heap.size, 0, none⟩) 4 4) markB.length (bv markB) := by simpa [markB, bv, u8, cellsL] using ho1
  conv => whnf
  repeat (first | refine V.seq ?_ | (refine V.reg ttOk ?_; conv => whnf) | refine V.cnd rfl ?_ | refine V.blk ?_ | (refine V.ext ?_; conv => whnf) | (refine V.rt ?_; conv => whnf) | (refine V.skp ?_; conv => whnf) | (refine V.lab ?_; conv => whnf) | (refine Ar.i64 (by omega) (by omega) ?_; conv => whnf) | (refine Ar.u64 (by omega) (by omega) ?_; conv => whnf) | (refine Ar.u32 (by omega) (by omega) ?_; conv => whnf) | (refine Ar.u8 (by omega) (by omega) ?_; conv => whnf) | (refine Br.tt ?_; conv => whnf) | (refine Br.ff ?_; conv => whnf) | refine Br.not ?_ | (refine Br.yes (by assumption) ?_; conv => whnf) | (refine Br.no (by assumption) ?_; conv => whnf) | (refine Br.dec_t (by omega) ?_; conv => whnf) | (refine Br.dec_f (by omega) ?_; conv => whnf) | (refine Chk.mk (by omega) ?_; conv => whnf))
  refine (put32R_fn id (by omega) w1).mono fun r w2 ⟨ho2, hB2⟩ => ?_
  have b2 := b1.trans (hB2.mono b1.size)
  conv => whnf
  refine Rv.appB (own_below ho1' hB2 (Nat.le_refl _)) (Sl.of_own ho2) (by simp [putB_len, markB]) b2.size (Nat.le_refl _) fun v3 w3 ho3 hB3 hg3 => ?_
  have b3 := b2.trans hB3
  conv => whnf
  repeat (first | refine V.seq ?_ | (refine V.reg ttOk ?_; conv => whnf) | refine V.cnd rfl ?_ | refine V.blk ?_ | (refine V.ext ?_; conv => whnf) | (refine V.rt ?_; conv => whnf) | (refine V.skp ?_; conv => whnf) | (refine V.lab ?_; conv => whnf) | (refine Ar.i64 (by omega) (by omega) ?_; conv => whnf) | (refine Ar.u64 (by omega) (by omega) ?_; conv => whnf) | (refine Ar.u32 (by omega) (by omega) ?_; conv => whnf) | (refine Ar.u8 (by omega) (by omega) ?_; conv => whnf) | (refine Br.tt ?_; conv => whnf) | (refine Br.ff ?_; conv => whnf) | refine Br.not ?_ | (refine Br.yes (by assumption) ?_; conv => whnf) | (refine Br.no (by assumption) ?_; conv => whnf) | (refine Br.dec_t (by omega) ?_; conv => whnf) | (refine Br.dec_f (by omega) ?_; conv => whnf) | (refine Chk.mk (by omega) ?_; conv => whnf))
  refine (put32R_fn i (by omega) w3).mono fun r w4 ⟨ho4, hB4⟩ => ?_
  have b4 := b3.trans (hB4.mono b3.size)
  conv => whnf
  refine Rv.appB (own_below ho3 hB4 (Nat.le_refl _)) (Sl.of_own ho4) (by simp [putB_len, markB]) b4.size (Nat.le_refl _) fun v5 w5 ho5 hB5 hg5 => ?_
  have b5 := b4.trans hB5
  conv => whnf
  repeat (first | refine V.seq ?_ | (refine V.reg ttOk ?_; conv => whnf) | refine V.cnd rfl ?_ | refine V.blk ?_ | (refine V.ext ?_; conv => whnf) | (refine V.rt ?_; conv => whnf) | (refine V.skp ?_; conv => whnf) | (refine V.lab ?_; conv => whnf) | (refine Ar.i64 (by omega) (by omega) ?_; conv => whnf) | (refine Ar.u64 (by omega) (by omega) ?_; conv => whnf) | (refine Ar.u32 (by omega) (by omega) ?_; conv => whnf) | (refine Ar.u8 (by omega) (by omega) ?_; conv => whnf) | (refine Br.tt ?_; conv => whnf) | (refine Br.ff ?_; conv => whnf) | refine Br.not ?_ | (refine Br.yes (by assumption) ?_; conv => whnf) | (refine Br.no (by assumption) ?_; conv => whnf) | (refine Br.dec_t (by omega) ?_; conv => whnf) | (refine Br.dec_f (by omega) ?_; conv => whnf) | (refine Chk.mk (by omega) ?_; conv => whnf))
  refine (put32R_fn size (by omega) w5).mono fun r w6 ⟨ho6, hB6⟩ => ?_
  have b6 := b5.trans (hB6.mono b5.size)
  conv => whnf
  refine Rv.appB (own_below ho5 hB6 (Nat.le_refl _)) (Sl.of_own ho6) (by simp [putB_len, markB]) b6.size (Nat.le_refl _) fun v7 w7 ho7 hB7 hg7 => ?_
  have b7 := b6.trans hB7
  have ho7' : w7.ownsRow w.heap.size 5 1 v7 (headB id i size).length (bv (headB id i size)) := ho7
  have hcl := crc_lt (headB id i size)
  conv => whnf
  repeat (first | refine V.seq ?_ | (refine V.reg ttOk ?_; conv => whnf) | refine V.cnd rfl ?_ | refine V.blk ?_ | (refine V.ext ?_; conv => whnf) | (refine V.rt ?_; conv => whnf) | (refine V.skp ?_; conv => whnf) | (refine V.lab ?_; conv => whnf) | (refine Ar.i64 (by omega) (by omega) ?_; conv => whnf) | (refine Ar.u64 (by omega) (by omega) ?_; conv => whnf) | (refine Ar.u32 (by omega) (by omega) ?_; conv => whnf) | (refine Ar.u8 (by omega) (by omega) ?_; conv => whnf) | (refine Br.tt ?_; conv => whnf) | (refine Br.ff ?_; conv => whnf) | refine Br.not ?_ | (refine Br.yes (by assumption) ?_; conv => whnf) | (refine Br.no (by assumption) ?_; conv => whnf) | (refine Br.dec_t (by omega) ?_; conv => whnf) | (refine Br.dec_f (by omega) ?_; conv => whnf) | (refine Chk.mk (by omega) ?_; conv => whnf))
  refine (sumR_fn v7 (headB id i size) w7 (Sl.of_own ho7')).mono fun r w8 ⟨hr, hB8⟩ => ?_
  subst hr
  have b8 := b7.trans (hB8.mono b7.size)
  conv => whnf
  refine (put32R_fn (crc (headB id i size)) hcl w8).mono fun r w9 ⟨ho9, hB9⟩ => ?_
  have b9 := b8.trans (hB9.mono b8.size)
  conv => whnf
  refine Rv.appB (own_below (own_below ho7' hB8 (Nat.le_refl _)) hB9 (Nat.le_refl _)) (Sl.of_own ho9) (by simp [headB_len, putB_len]) b9.size (Nat.le_refl _) fun v10 w10 ho10 hB10 hg10 => ?_
  have b10 := b9.trans hB10
  conv => whnf
  repeat (first | refine V.seq ?_ | (refine V.reg ttOk ?_; conv => whnf) | refine V.cnd rfl ?_ | refine V.blk ?_ | (refine V.ext ?_; conv => whnf) | (refine V.rt ?_; conv => whnf) | (refine V.skp ?_; conv => whnf) | (refine V.lab ?_; conv => whnf) | (refine Ar.i64 (by omega) (by omega) ?_; conv => whnf) | (refine Ar.u64 (by omega) (by omega) ?_; conv => whnf) | (refine Ar.u32 (by omega) (by omega) ?_; conv => whnf) | (refine Ar.u8 (by omega) (by omega) ?_; conv => whnf) | (refine Br.tt ?_; conv => whnf) | (refine Br.ff ?_; conv => whnf) | refine Br.not ?_ | (refine Br.yes (by assumption) ?_; conv => whnf) | (refine Br.no (by assumption) ?_; conv => whnf) | (refine Br.dec_t (by omega) ?_; conv => whnf) | (refine Br.dec_f (by omega) ?_; conv => whnf) | (refine Chk.mk (by omega) ?_; conv => whnf))
  refine V.loop (α := Nat × Value) (fun (t, x) => [(3, .slice a l.length cp), (10, x), (11, .int .i64 ((16 * t : Nat) : Int))])
    (fun (t, x) w' => t ≤ N ∧ w'.ownsRow w.heap.size 5 1 x (headB id i size ++ putB (crc (headB id i size)) 4 ++ blocksB l t).length (bv (headB id i size ++ putB (crc (headB id i size)) 4 ++ blocksB l t)) ∧ Below w.heap.size w w')
    (fun (t, _) => N - t) (0, v10) ⟨rfl, rfl, rfl, trivial⟩ ⟨by omega, by simpa [blocksB] using ho10, b10⟩ ?_
  rintro ⟨t, x⟩ w11 ⟨ht, ho11, hB11⟩
  dsimp only at *
  repeat (first | refine V.seq ?_ | (refine V.reg ttOk ?_; conv => whnf) | refine V.cnd rfl ?_ | refine V.blk ?_ | (refine V.ext ?_; conv => whnf) | (refine V.rt ?_; conv => whnf) | (refine V.skp ?_; conv => whnf) | (refine V.lab ?_; conv => whnf) | (refine Ar.i64 (by omega) (by omega) ?_; conv => whnf) | (refine Ar.u64 (by omega) (by omega) ?_; conv => whnf) | (refine Ar.u32 (by omega) (by omega) ?_; conv => whnf) | (refine Ar.u8 (by omega) (by omega) ?_; conv => whnf) | (refine Br.tt ?_; conv => whnf) | (refine Br.ff ?_; conv => whnf) | refine Br.not ?_ | (refine Br.yes (by assumption) ?_; conv => whnf) | (refine Br.no (by assumption) ?_; conv => whnf) | (refine Br.dec_t (by omega) ?_; conv => whnf) | (refine Br.dec_f (by omega) ?_; conv => whnf) | (refine Chk.mk (by omega) ?_; conv => whnf))
  refine Br.dec (fun h => ?_) (fun h => ?_)
  · have htN : t < N := by omega
    have hs7 := hs.below hB11
    obtain ⟨b1, o1, rfl, hr1⟩ := hs7.addr (by omega)
    obtain ⟨q1, q2, q3⟩ := hs7.len
    rw [bv_length] at q1
    repeat (first | refine V.seq ?_ | (refine V.reg ttOk ?_; conv => whnf) | refine V.cnd rfl ?_ | refine V.blk ?_ | (refine V.ext ?_; conv => whnf) | (refine V.rt ?_; conv => whnf) | (refine V.skp ?_; conv => whnf) | (refine V.lab ?_; conv => whnf) | (refine Ar.i64 (by omega) (by omega) ?_; conv => whnf) | (refine Ar.u64 (by omega) (by omega) ?_; conv => whnf) | (refine Ar.u32 (by omega) (by omega) ?_; conv => whnf) | (refine Ar.u8 (by omega) (by omega) ?_; conv => whnf) | (refine Br.tt ?_; conv => whnf) | (refine Br.ff ?_; conv => whnf) | refine Br.not ?_ | (refine Br.yes (by assumption) ?_; conv => whnf) | (refine Br.no (by assumption) ?_; conv => whnf) | (refine Br.dec_t (by omega) ?_; conv => whnf) | (refine Br.dec_f (by omega) ?_; conv => whnf) | (refine Chk.mk (by omega) ?_; conv => whnf))
    intro o6 n6 c6 p1 p2 p3 p4
    conv => whnf
    repeat (first | refine V.seq ?_ | (refine V.reg ttOk ?_; conv => whnf) | refine V.cnd rfl ?_ | refine V.blk ?_ | (refine V.ext ?_; conv => whnf) | (refine V.rt ?_; conv => whnf) | (refine V.skp ?_; conv => whnf) | (refine V.lab ?_; conv => whnf) | (refine Ar.i64 (by omega) (by omega) ?_; conv => whnf) | (refine Ar.u64 (by omega) (by omega) ?_; conv => whnf) | (refine Ar.u32 (by omega) (by omega) ?_; conv => whnf) | (refine Ar.u8 (by omega) (by omega) ?_; conv => whnf) | (refine Br.tt ?_; conv => whnf) | (refine Br.ff ?_; conv => whnf) | refine Br.not ?_ | (refine Br.yes (by assumption) ?_; conv => whnf) | (refine Br.no (by assumption) ?_; conv => whnf) | (refine Br.dec_t (by omega) ?_; conv => whnf) | (refine Br.dec_f (by omega) ?_; conv => whnf) | (refine Chk.mk (by omega) ?_; conv => whnf))
    obtain rfl : n6 = 16 := by omega
    have hch : Sl w11 (.slice (some ⟨b1, o6, none⟩) 16 c6) (bv (chunk l t)) := by
      have hd := hs7.drop (k := 16 * t) (by rw [bv_length]; omega) (o' := o6) (n' := l.length - 16 * t) (c' := c6) (fun h => by have := p1 (by omega); omega) rfl (by omega)
      have ht := hd.take (k := 16) (by simp; omega) (c' := c6) (by omega) (Nat.le_refl _)
      rwa [chunk_bv]
    have hck := chunk_len l t (by omega)
    have hbl := blocksB_len l t (by omega)
    refine Rv.appB ho11 hch (by simp [headB_len, putB_len, hck, hbl]; omega) hB11.size (Nat.le_refl _) fun v8 w12 ho8 hB8 hg8 => ?_
    have b8 := hB11.trans hB8
    have hs8 := hs.below b8
    conv => whnf
    repeat (first | refine V.seq ?_ | (refine V.reg ttOk ?_; conv => whnf) | refine V.cnd rfl ?_ | refine V.blk ?_ | (refine V.ext ?_; conv => whnf) | (refine V.rt ?_; conv => whnf) | (refine V.skp ?_; conv => whnf) | (refine V.lab ?_; conv => whnf) | (refine Ar.i64 (by omega) (by omega) ?_; conv => whnf) | (refine Ar.u64 (by omega) (by omega) ?_; conv => whnf) | (refine Ar.u32 (by omega) (by omega) ?_; conv => whnf) | (refine Ar.u8 (by omega) (by omega) ?_; conv => whnf) | (refine Br.tt ?_; conv => whnf) | (refine Br.ff ?_; conv => whnf) | refine Br.not ?_ | (refine Br.yes (by assumption) ?_; conv => whnf) | (refine Br.no (by assumption) ?_; conv => whnf) | (refine Br.dec_t (by omega) ?_; conv => whnf) | (refine Br.dec_f (by omega) ?_; conv => whnf) | (refine Chk.mk (by omega) ?_; conv => whnf))
    have hch8 : Sl w12 (.slice (some ⟨b1, o6, none⟩) 16 c6) (bv (chunk l t)) := by
      have hd := hs8.drop (k := 16 * t) (by rw [bv_length]; omega) (o' := o6) (n' := l.length - 16 * t) (c' := c6) (fun h => by have := p1 (by omega); omega) rfl (by omega)
      have ht := hd.take (k := 16) (by simp; omega) (c' := c6) (by omega) (Nat.le_refl _)
      rwa [chunk_bv]
    refine (sumR_fn _ (chunk l t) w12 hch8).mono fun r w13 ⟨hr, hB9⟩ => ?_
    subst hr
    have hcl2 := crc_lt (chunk l t)
    conv => whnf
    refine (put32R_fn (crc (chunk l t)) hcl2 w13).mono fun r w14 ⟨ho10, hB10⟩ => ?_
    have b9 := b8.trans (hB9.mono b8.size)
    have b10 := b9.trans (hB10.mono b9.size)
    conv => whnf
    refine Rv.appB (own_below (own_below ho8 hB9 (Nat.le_refl _)) hB10 (Nat.le_refl _)) (Sl.of_own ho10) (by simp [headB_len, putB_len, hck, hbl]; omega) b10.size (Nat.le_refl _) fun v11 w15 ho11 hB11 hg11 => ?_
    conv => whnf
    repeat (first | refine V.seq ?_ | (refine V.reg ttOk ?_; conv => whnf) | refine V.cnd rfl ?_ | refine V.blk ?_ | (refine V.ext ?_; conv => whnf) | (refine V.rt ?_; conv => whnf) | (refine V.skp ?_; conv => whnf) | (refine V.lab ?_; conv => whnf) | (refine Ar.i64 (by omega) (by omega) ?_; conv => whnf) | (refine Ar.u64 (by omega) (by omega) ?_; conv => whnf) | (refine Ar.u32 (by omega) (by omega) ?_; conv => whnf) | (refine Ar.u8 (by omega) (by omega) ?_; conv => whnf) | (refine Br.tt ?_; conv => whnf) | (refine Br.ff ?_; conv => whnf) | refine Br.not ?_ | (refine Br.yes (by assumption) ?_; conv => whnf) | (refine Br.no (by assumption) ?_; conv => whnf) | (refine Br.dec_t (by omega) ?_; conv => whnf) | (refine Br.dec_f (by omega) ?_; conv => whnf) | (refine Chk.mk (by omega) ?_; conv => whnf))
    refine ⟨(t + 1, v11), ⟨rfl, rfl, vint (by push_cast; omega), trivial⟩, ⟨by dsimp only; omega, ?_, b10.trans hB11⟩, (by first | omega | (dsimp only; omega))⟩
    simpa only [blocksB, blockB, List.append_assoc] using ho11
  · obtain rfl : t = N := by omega
    repeat (first | refine V.seq ?_ | (refine V.reg ttOk ?_; conv => whnf) | refine V.cnd rfl ?_ | refine V.blk ?_ | (refine V.ext ?_; conv => whnf) | (refine V.rt ?_; conv => whnf) | (refine V.skp ?_; conv => whnf) | (refine V.lab ?_; conv => whnf) | (refine Ar.i64 (by omega) (by omega) ?_; conv => whnf) | (refine Ar.u64 (by omega) (by omega) ?_; conv => whnf) | (refine Ar.u32 (by omega) (by omega) ?_; conv => whnf) | (refine Ar.u8 (by omega) (by omega) ?_; conv => whnf) | (refine Br.tt ?_; conv => whnf) | (refine Br.ff ?_; conv => whnf) | refine Br.not ?_ | (refine Br.yes (by assumption) ?_; conv => whnf) | (refine Br.no (by assumption) ?_; conv => whnf) | (refine Br.dec_t (by omega) ?_; conv => whnf) | (refine Br.dec_f (by omega) ?_; conv => whnf) | (refine Chk.mk (by omega) ?_; conv => whnf))
    refine ⟨x, rfl, ?_, hB11⟩
    unfold fileB
    rw [hN]
    exact ho11

end Go.Proofs.Ytlldgodjfpgbcaa
