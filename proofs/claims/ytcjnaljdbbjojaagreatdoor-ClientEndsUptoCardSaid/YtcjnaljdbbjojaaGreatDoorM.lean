/- gf.Add, Scale; matrix; shard.times, Sums. Nothing is claimed here. -/
import Derived.Test.YtcjnaljdbbjojaaGreatDoorG
namespace Go.Proofs.YtcjnaljdbbjojaaGreatDoor
open Go.RowKit
set_option linter.unusedVariables false
set_option linter.unusedSimpArgs false
set_option maxRecDepth 100000

def gmb (a b : UInt8) : UInt8 := UInt8.ofNat (gm a.toNat b.toNat)
def gib (a : UInt8) : UInt8 := UInt8.ofNat (if a.toNat = 0 then 0 else gi a.toNat)
def rmb (a b : UInt8) : UInt8 := UInt8.ofNat (rm a.toNat b.toNat)
def rib (a : UInt8) : UInt8 := UInt8.ofNat (ri a.toNat)
theorem u8lt (a : UInt8) : a.toNat < 256 := by have := a.toNat_lt; omega
theorem gpw_lt : ∀ (f p a n : Nat), p < 256 → a < 256 → gpw f p a n < 256
  | 0, _, _, _, hp, _ => hp
  | f + 1, p, a, n, hp, ha => gpw_lt f _ _ _ (by split; exact gm_lt p a hp; exact hp) (gm_lt a a ha)
theorem gi_lt (a : Nat) (h : a < 256) : gi a < 256 := gpw_lt 64 1 a 254 (by decide) h
theorem rFind_lt (a : Nat) : ∀ (n i : Nat), i + n ≤ 256 → rFind a n i < 256
  | 0, _, _ => by rw [rFind]; decide
  | n + 1, i, h => by
    rw [rFind]
    split
    · omega
    · exact rFind_lt a n (i + 1) (by omega)
theorem ri_lt (a : Nat) : ri a < 256 := rFind_lt a 255 1 (by decide)
theorem rm_lt (a b : Nat) : rm a b < 256 := Nat.mod_lt _ (by decide)
theorem u8_ofNat (x : Nat) (h : x < 256) : (.int .u8 (x : Int) : Value) = u8 (UInt8.ofNat x) := by
  unfold u8
  rw [UInt8.toNat_ofNat', Nat.mod_eq_of_lt (by simpa using h)]
theorem gmb_fn (a b : UInt8) (w : World) : Fn Tryz.prog 97 #[u8 a, u8 b] w fun r w' => w' = w ∧ r = u8 (gmb a b) :=
  (gmul_fn a.toNat b.toNat (u8lt a) (u8lt b) w).mono fun r w' ⟨h1, h2⟩ => ⟨h1, h2.trans (u8_ofNat _ (gm_lt _ _ (u8lt a)))⟩
theorem gib_fn (a : UInt8) (w : World) : Fn Tryz.prog 48 #[u8 a] w fun r w' => w' = w ∧ r = .tuple #[u8 (gib a), .int .i64 (if a.toNat = 0 then 1 else 0)] :=
  (ginv_fn a.toNat (u8lt a) w).mono fun r w' ⟨h1, h2⟩ => ⟨h1, h2.trans (by rw [u8_ofNat _ (by split; decide; exact gi_lt _ (u8lt a))]; rfl)⟩
theorem bv_fill (A : List UInt8) (m : Nat) : bv A ++ List.replicate m (u8 0) = bv (A ++ List.replicate m 0) := by simp [bv]

theorem bv_map_succ {l : List UInt8} (f : UInt8 → UInt8) {k : Nat} (hk : k < l.length) : bv ((l.take (k + 1)).map f) = bv ((l.take k).map f) ++ [u8 (f l[k])] := by
  rw [List.take_succ_eq_append_getElem hk, List.map_append, bv_append]
  rfl
theorem bv_zip_succ {l m : List UInt8} (f : UInt8 → UInt8 → UInt8) {k : Nat} (hk : k < l.length) (hm : k < m.length) : bv ((List.zipWith f l m).take (k + 1)) = bv ((List.zipWith f l m).take k) ++ [u8 (f l[k] m[k])] := by
  have : k < (List.zipWith f l m).length := by simp; omega
  rw [List.take_succ_eq_append_getElem this, bv_append, List.getElem_zipWith]
  rfl

theorem scale_fn (v : Value) (l : List UInt8) (c : UInt8) (w : World) (hs : Sl w v (bv l)) (hl : l.length ≤ 140737488355328) :
    Fn Tryz.prog 115 #[v, u8 c] w fun r w' => w'.ownsRow w.heap.size 5 1 r l.length (bv (l.map fun x => gmb x c)) ∧ Below w.heap.size w w' := by
  have hle := hs.le
  obtain ⟨a, cp, rfl⟩ := hs.shape
  simp only [bv_length] at *
  refine Fn.mk Tryz.func115 rfl (by kernel_rfl) Tryz.ntmps115 rfl (by rw [Tryz.results115]) ?_
  refine RunR ?_
  refine Rv.make ttOk l.length l.length tl37 tl5 rfl rfl rfl (Nat.le_refl _) (by omega) (by simp only [maxLen]; omega) fun w1 ho hg => ?_
  conv => whnf
  refine RunR ?_
  refine V.loop (α := Nat) (fun k => [(0, .slice a l.length cp), (1, u8 c), (5, .slice (some ⟨w.heap.size, 0, none⟩) l.length l.length), (11, .int .i64 l.length), (12, .int .i64 k)])
    (fun k w' => k ≤ l.length ∧ w'.ownsRow w.heap.size 5 1 (.slice (some ⟨w.heap.size, 0, none⟩) l.length l.length) l.length (bv ((l.take k).map (fun x => gmb x c)) ++ List.replicate (l.length - k) (u8 0)) ∧ Below w.heap.size w w')
    (fun k => l.length - k) 0 ⟨rfl, rfl, rfl, rfl, rfl, trivial⟩ ⟨by omega, ho, below_of_grown0 hg (Nat.le_refl _)⟩ ?_
  rintro k w2 ⟨hk, ho, hW⟩
  refine RunR ?_
  refine Br.dec (fun h => ?_) (fun h => ?_)
  · have hkl : k < l.length := by omega
    obtain ⟨b', o, rfl, hr⟩ := (hs.below hW).addr (by omega)
    refine RunR ?_
    intro o' ho'
    conv => whnf
    refine Ld.one ttOk tl5 rfl (hr.at (bv_get (List.getElem?_eq_getElem hkl)) (by omega)) ?_
    conv => whnf
    refine (gmb_fn l[k] c w2).mono fun r w3 ⟨hw, hr⟩ => ?_
    subst hr; subst hw
    conv => whnf
    refine RunR ?_
    intro o2 ho2
    obtain rfl : o2 = k := by omega
    conv => whnf
    refine St.own tl5 rfl ho hkl rfl rfl ttOk fun w4 ho4 hg4 => ?_
    conv => whnf
    refine RunR ?_
    refine ⟨o2 + 1, ⟨rfl, rfl, rfl, rfl, rfl, trivial⟩, ⟨by omega, ?_, ?_⟩, (by first | omega | (dsimp only; omega))⟩
    · rw [(by omega : l.length - o2 = (l.length - (o2 + 1)) + 1), fill_set _ _ _ _ (by simp; omega)] at ho4
      rw [bv_map_succ _ hkl]
      exact ho4
    · exact hW.trans (below_own_store hg4 hW.size (Nat.le_refl _))
  · obtain rfl : k = l.length := by omega
    refine RunR ?_
    refine ⟨?_, hW⟩
    simpa using ho

theorem add_fn (v1 v2 : Value) (l1 l2 : List UInt8) (w : World) (h1 : Sl w v1 (bv l1)) (h2 : Sl w v2 (bv l2)) (he : l2.length = l1.length) (hl : l1.length ≤ 140737488355328) :
    Fn Tryz.prog 114 #[v1, v2] w fun r w' => ∃ u, r = .tuple #[u, .int .i64 0] ∧ w'.ownsRow w.heap.size 5 1 u l1.length (bv (List.zipWith (· ^^^ ·) l1 l2)) ∧ Below w.heap.size w w' := by
  have hle := h1.le
  obtain ⟨a, cp, rfl⟩ := h1.shape
  obtain ⟨a2, cp2, rfl⟩ := h2.shape
  simp only [bv_length] at *
  rw [he] at h2
  rw [he]
  refine Fn.mk Tryz.func114 rfl (by kernel_rfl) Tryz.ntmps114 rfl (by rw [Tryz.results114]) ?_
  refine RunR ?_
  refine Rv.make ttOk l1.length l1.length tl37 tl5 rfl rfl rfl (Nat.le_refl _) (by omega) (by simp only [maxLen]; omega) fun w1 ho hg => ?_
  conv => whnf
  refine RunR ?_
  refine V.loop (α := Nat) (fun k => [(0, .slice a l1.length cp), (1, .slice a2 l1.length cp2), (6, .slice (some ⟨w.heap.size, 0, none⟩) l1.length l1.length), (17, .int .i64 l1.length), (18, .int .i64 k)])
    (fun k w' => k ≤ l1.length ∧ w'.ownsRow w.heap.size 5 1 (.slice (some ⟨w.heap.size, 0, none⟩) l1.length l1.length) l1.length (bv ((List.zipWith (· ^^^ ·) l1 l2).take k) ++ List.replicate (l1.length - k) (u8 0)) ∧ Below w.heap.size w w')
    (fun k => l1.length - k) 0 ⟨rfl, rfl, rfl, rfl, rfl, trivial⟩ ⟨by omega, ho, below_of_grown0 hg (Nat.le_refl _)⟩ ?_
  rintro k w2 ⟨hk, ho, hW⟩
  refine RunR ?_
  refine Br.dec (fun h => ?_) (fun h => ?_)
  · have hkl : k < l1.length := by omega
    have hkm : k < l2.length := by omega
    obtain ⟨b', o, rfl, hr⟩ := (h1.below hW).addr (by omega)
    obtain ⟨b2, o2, rfl, hr2⟩ := (h2.below hW).addr (by omega)
    refine RunR ?_
    refine V.tail ttOk 12 mixed (by kernel_rfl) ?_
    conv => whnf
    refine RunR ?_
    intro o' ho'
    conv => whnf
    refine Lq.one ttOk tl5 rfl (Sl.lq hr (bv_get (List.getElem?_eq_getElem hkl)) (by omega)) ?_
    conv => whnf
    refine RunR ?_
    intro o4 ho4
    conv => whnf
    refine Lq.one ttOk tl5 rfl (Sl.lq hr2 (bv_get (List.getElem?_eq_getElem hkm)) (by omega)) ?_
    conv => whnf
    refine Bt.xor8 l1[k].toNat l2[k].toNat rfl rfl (u8lt _) (u8lt _) ?_
    conv => whnf
    refine RunR ?_
    intro o5 ho5
    obtain rfl : o5 = k := by omega
    conv => whnf
    refine St.own tl5 rfl ho.drew hkl rfl rfl ttOk fun w4 ho4 hg4 => ?_
    conv => whnf
    refine RunR ?_
    refine ⟨o5 + 1, ⟨rfl, rfl, rfl, rfl, rfl, trivial⟩, ⟨by omega, ?_, ?_⟩, (by first | omega | (dsimp only; omega))⟩
    · rw [(by omega : l1.length - o5 = (l1.length - (o5 + 1)) + 1), fill_set _ _ _ _ (by simp; omega)] at ho4
      rw [bv_zip_succ _ hkl hkm]
      rw [u8_ofNat _ (xor_lt8 (u8lt _) (u8lt _))] at ho4
      have e : UInt8.ofNat (l1[o5].toNat ^^^ l2[o5].toNat) = l1[o5] ^^^ l2[o5] := by
        rw [← UInt8.toNat_xor, UInt8.ofNat_toNat]
      rw [e] at ho4
      exact ho4
    · exact hW.drew.trans (below_own_store hg4 hW.size (Nat.le_refl _))
  · obtain rfl : k = l1.length := by omega
    refine RunR ?_
    refine ⟨_, rfl, ?_, hW⟩
    rw [List.take_of_length_le (by simp; omega)] at ho
    simpa using ho

end Go.Proofs.YtcjnaljdbbjojaaGreatDoor
