/- same of a law's package. volume: Dirt; known. Nothing is claimed here. -/
import Derived.Test.YtladfadcgfdbfaaGreatDoorD03
import Derived.Test.YtladfadcgfdbfaaGreatDoorD21
namespace Go.Proofs.YtladfadcgfdbfaaGreatDoor
open Go.RowKit
set_option linter.unusedVariables false
set_option linter.unusedSimpArgs false
set_option maxRecDepth 100000
theorem take_succ_eq {α : Type} [BEq α] {l m : List α} {k : Nat} (h : l.take k = m.take k) (hl : k < l.length) (hm : k < m.length) (he : l[k] = m[k]) : l.take (k + 1) = m.take (k + 1) := by
  rw [List.take_succ_eq_append_getElem hl, List.take_succ_eq_append_getElem hm, h, he]
theorem u8_ne {a b : UInt8} (h : a ≠ b) : ¬ ((a.toNat : Int) = b.toNat) := fun h1 => h (UInt8.toNat_inj.1 (by exact_mod_cast h1))
theorem same_fn (v1 v2 : Value) (l1 l2 : List UInt8) (w : World) (h1 : Sl w v1 (bv l1)) (h2 : Sl w v2 (bv l2)) :
    Fn Tryz.prog 22 #[v1, v2] w fun r w' => r = .bool (decide (l1 = l2)) ∧ Below w.heap.size w w' := by
  have hle1 := h1.le
  have hle2 := h2.le
  obtain ⟨a, cp, rfl⟩ := h1.shape
  obtain ⟨a2, cp2, rfl⟩ := h2.shape
  simp only [bv_length] at *
  refine Fn.mk Tryz.func22 rfl (by kernel_rfl) Tryz.ntmps22 rfl (by rw [Tryz.results22]) ?_
  refine RunR ?_
  refine Br.dec (fun h => ?_) (fun h => ?_)
  · have hlen : l1.length = l2.length := by omega
    refine RunR ?_
    refine V.loop (α := Nat) (fun k => [(0, .slice a l1.length cp), (1, .slice a2 l2.length cp2), (5, .int .i64 k)])
      (fun k w' => k ≤ l1.length ∧ l1.take k = l2.take k ∧ Below w.heap.size w w')
      (fun k => l1.length - k) 0 ⟨rfl, rfl, rfl, trivial⟩ ⟨by omega, rfl, Below.refl _ _⟩ ?_
    rintro k w2 ⟨hk, he, hW⟩
    refine RunR ?_
    refine Br.dec (fun h => ?_) (fun h => ?_)
    · have hkl : k < l1.length := by omega
      have hkm : k < l2.length := by omega
      obtain ⟨b', o, rfl, hr⟩ := (h1.below hW).addr (by omega)
      obtain ⟨b2, o2, rfl, hr2⟩ := (h2.below hW).addr (by omega)
      refine RunR ?_
      refine V.quiet ttOk (fun x => x = w2.drew) mixed (by kernel_rfl) rfl ?_
      conv => whnf
      refine RunR ?_
      intro o' ho'
      conv => whnf
      refine Lq.one ttOk tl5 rfl (Sl.lq hr (bv_get (List.getElem?_eq_getElem hkl)) (by omega)) ?_
      conv => whnf
      refine RunR ?_
      intro o4 ho4
      conv => whnf
      refine Lq.one ttOk tl5 rfl (Sl.lq hr2 (bv_get (List.getElem?_eq_getElem hkm)) (by omega)) ?_
      conv => whnf
      refine RunR ?_
      rintro w' rfl
      conv => whnf
      refine RunR ?_
      by_cases hx : l1[k] = l2[k]
      · rw [hx]
        refine RunR ?_
        exact ⟨k + 1, ⟨rfl, rfl, rfl, trivial⟩, ⟨by omega, take_succ_eq he hkl hkm hx, hW.drew⟩, (by first | omega | (dsimp only; omega))⟩
      · have hx' := u8_ne hx
        refine RunR ?_
        refine ⟨?_, hW.drew⟩
        rw [decide_eq_false]
        rintro rfl
        exact hx rfl
    · obtain rfl : k = l1.length := by omega
      refine RunR ?_
      refine ⟨?_, hW⟩
      rw [List.take_length, hlen, List.take_length] at he
      rw [decide_eq_true he]
  · refine RunR ?_
    refine ⟨?_, Below.refl _ _⟩
    rw [decide_eq_false]
    rintro rfl
    exact h rfl
end Go.Proofs.YtladfadcgfdbfaaGreatDoor
namespace Go.Proofs.YtladfadcgfdbfaaGreatDoor
open Go.RowKit
open Go.Maps (Keyed)
set_option linter.unusedVariables false
set_option linter.unusedSimpArgs false
set_option maxRecDepth 100000
def sumN (ps : List Pc) : Nat := (ps.map Pc.n).sum
theorem sumN_split {A C : List Pc} {a : Pc} : sumN (A ++ a :: C) = a.n + sumN (A ++ C) := by simp [sumN]; omega
theorem pcE_inj {a b : Pc} (h : pcE a = pcE b) : a = b := by
  obtain ⟨k, t, n, c, d⟩ := a
  obtain ⟨k', t', n', c', d'⟩ := b
  have h2 := congrArg Prod.snd h
  simp only [pcE, pcV] at h2
  injection h2 with h2
  have h3 : pcC ⟨k, t, n, c, d⟩ = pcC ⟨k', t', n', c', d'⟩ := by simpa using h2
  simp only [pcC, List.cons.injEq, Value.int.injEq, Value.bool.injEq, true_and, and_true] at h3
  rw [Pc.mk.injEq]
  exact ⟨by omega, by omega, by omega, by omega, h3.2.2.2.2⟩
/-- one of them is taken -/
theorem took {rest : List Pc} {left left' : List (Value × Value)} {p : Value × Value} (hnd : NdP rest) (hm : ∀ q, q ∈ left ↔ q ∈ rest.map pcE) (hp : p ∈ left) (h1 : ∀ q ∈ left, q = p ∨ q ∈ left') (h2 : ∀ q ∈ left', q ∈ left ∧ q.1 ≠ p.1) :
    ∃ A a C, rest = A ++ a :: C ∧ p = pcE a ∧ NdP (A ++ C) ∧ ∀ q, q ∈ left' ↔ q ∈ (A ++ C).map pcE := by
  obtain ⟨a, ha, rfl⟩ := List.mem_map.1 ((hm p).1 hp)
  obtain ⟨A, C, rfl⟩ := List.append_of_mem ha
  have hs : ((A ++ C).map Pc.key).Sublist ((A ++ a :: C).map Pc.key) := ((List.Sublist.refl A).append (List.sublist_cons_self _ _)).map _
  have hkey : ∀ b ∈ A ++ C, b.key ≠ a.key := fun b hb e => by
    rw [NdP, List.map_append, List.map_cons] at hnd
    have h3 := List.nodup_append.1 hnd
    rcases List.mem_append.1 hb with hb | hb
    · exact h3.2.2 _ (List.mem_map_of_mem hb) _ (by simp) e
    · exact (List.nodup_cons.1 h3.2.1).1 (by rw [← e]; exact List.mem_map_of_mem hb)
  refine ⟨A, a, C, rfl, rfl, hnd.sublist hs, fun q => ⟨fun hq => ?_, fun hq => ?_⟩⟩
  · obtain ⟨hq1, hq2⟩ := h2 q hq
    obtain ⟨b, hb, rfl⟩ := List.mem_map.1 ((hm q).1 hq1)
    refine List.mem_map_of_mem ?_
    rcases List.mem_append.1 hb with hb | hb
    · exact List.mem_append.2 (.inl hb)
    · rcases List.mem_cons.1 hb with rfl | hb
      · exact absurd rfl hq2
      · exact List.mem_append.2 (.inr hb)
  · obtain ⟨b, hb, rfl⟩ := List.mem_map.1 hq
    have hb2 : b ∈ A ++ a :: C := by
      rcases List.mem_append.1 hb with hb | hb
      · exact List.mem_append.2 (.inl hb)
      · exact List.mem_append.2 (.inr (by simp [hb]))
    rcases h1 _ ((hm _).2 (List.mem_map_of_mem hb2)) with h | h
    · exact absurd (by rw [pcE_inj h]) (hkey b hb)
    · exact h
section
variable {B d v m room id : Nat} {nm : ByteArray} {S : List Fl} {ps : List Pc} {F : List Res} {w0 w : World}
set_option maxHeartbeats 2000000 in
theorem vdirt_fn (hn : nm.size ≤ 1000000) (hnd : NdP ps) (hsum : sumN ps ≤ 2147483648) (hD : DkS B w0 w d room S (.blk v (volC d id nm m) 100 :: .mp 38 m (ps.map pcE) :: F)) :
    Fn Tryz.prog 26 #[ptr v] w fun r w' => r = .int .i64 (szS S nm - 8 - sumN ps : Nat) ∧ DkS B w0 w' d room S (.blk v (volC d id nm m) 100 :: .mp 38 m (ps.map pcE) :: F) := by
  have hsz := szS_le hD nm
  obtain ⟨dL, hL, hB, close⟩ := hD.open
  rw [volC] at hL
  refine Fn.mk Tryz.func26 rfl (by kernel_rfl) Tryz.ntmps26 rfl (by rw [Tryz.results26]) ?_
  repeat (first | (refine RunH ?_; intro w hL hB; try clear w) | (refine Both.mk ?_ ?_ <;> conv => whnf) | fail)
  clear hL hB close
  refine (vsize_fn hn hD).mono fun r w ⟨hr, hD⟩ => ?_
  subst hr
  obtain ⟨dL, hL, hB, close⟩ := hD.open
  clear hD
  rw [volC] at hL
  conv => whnf
  repeat (first | (refine RunH ?_; intro w hL hB; try clear w) | (refine Both.mk ?_ ?_ <;> conv => whnf) | (refine Rv.rangeS ttOk hL 1 tl98 rfl hB (fun r w hL hB => ?_); conv => whnf) | fail)
  simp only [List.cons_append, List.set] at hL
  refine V.loop (α := List Pc × List (Value × Value) × Option (Value × Value) × List Res) (fun z => [(3, .int .i64 ((szS S nm : Int) - 8 - ((sumN ps : Int) - (sumN z.1 : Int)))), (15, .pointer (some ⟨r, 0, none⟩))])
    (fun z w' => NdP z.1 ∧ sumN z.1 ≤ sumN ps ∧ (∀ q, q ∈ z.2.1 ↔ q ∈ z.1.map pcE) ∧ Sep Tryz.prog B w0 w' (.blk v [ptr d, .int .i64 (id : Int), .string nm, .map (some m)] 100 :: .it 38 r m (ps.map pcE) z.2.1 z.2.2.1 :: (F ++ dL)) ∧ B ≤ w'.heap.size)
    (fun z => z.2.1.length) (ps, ps.map pcE, none, []) ⟨vint (by dsimp only; omega), rfl, trivial⟩ ⟨hnd, Nat.le_refl _, fun _ => .rfl, hL, hB⟩ ?_
  clear hL hB
  rintro ⟨rest, left, cur, _⟩ w ⟨hnr, hle, hm, hL, hB⟩
  simp only at hnr hle hm hL ⊢
  repeat (first | (refine RunH ?_; intro w hL hB; try clear w) | (refine Both.mk ?_ ?_ <;> conv => whnf) | (refine Rv.nextS hL 1 rfl hB (fun hleft hL => ?_) (fun p left' w hp hpl hlen hq1 hq2 hL hB => ?_) <;> conv => whnf) | fail)
  · subst hleft
    have hr0 : rest = [] := by
      cases rest with
      | nil => rfl
      | cons a l => exact absurd ((hm (pcE a)).2 (by simp)) (by simp)
    subst hr0
    dsimp only [List.set] at hL
    refine ⟨vintv ?_, close (F' := _ :: _ :: F) hL hB⟩
    show max 0 ((szS S nm : Int) - 8 - ((sumN ps : Int) - ((0 : Nat) : Int))) = _
    omega
  · obtain ⟨A, a, C, hre, hpa, hnd', hm'⟩ := took hnr hm hp hq1 hq2
    subst hpa
    obtain ⟨ak, at_, an, ac, ad⟩ := a
    have hs := sumN_split (A := A) (C := C) (a := ⟨ak, at_, an, ac, ad⟩)
    rw [← hre] at hs
    dsimp only at hs
    dsimp only [List.set] at hL
    simp only [pcE, pcV, pcC] at hL ⊢
    repeat (first | (refine RunH ?_; intro w hL hB; try clear w) | (refine Both.mk ?_ ?_ <;> conv => whnf) | (refine Rv.curS hL 1 rfl ?_; conv => whnf) | (refine Nw.sep hL hB (fun t w hL hB ht => ?_); conv => whnf) | fail)
    exact ⟨(A ++ C, left', _, []), ⟨vint (by dsimp only; omega), rfl, trivial⟩, ⟨hnd', by dsimp only; omega, hm', hL.tl, hB⟩, hlen⟩
end
end Go.Proofs.YtladfadcgfdbfaaGreatDoor
