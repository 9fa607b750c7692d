/- wal, plain: one log alone on its disk, step by step. Nothing is claimed here. -/
import Derived.Test.YtjafamiaahabgaaGreatDoorAv
import Derived.Test.YtjafamiaahabgaaGreatDoorAp
namespace Go.Proofs.YtjafamiaahabgaaGreatDoor
open Go.RowKit Go.Lib
set_option linter.unusedVariables false
set_option linter.unusedSimpArgs false
set_option maxRecDepth 100000

def gsW (H : List (Wg × Nat)) : List Wg := H.map (·.1)
def fsW (pre : ByteArray) (H : List (Wg × Nat)) : List Fl := H.map (fileW pre)
/-- a log from number n on to af, of the entries xs; what is numbered up to k lasts -/
structure Lone (n k : Nat) (H : List (Wg × Nat)) (af : Nat) (xs : List (List UInt8)) : Prop where
  ch : ChG n (gsW H) af
  ne : ∀ g ∈ H, g.1.es ≠ []
  flat : flatG (gsW H) = xs
  big : ∀ g ∈ H.dropLast, 1024 ≤ g.1.size
  la : ∀ g ∈ H, g.2 ≤ g.1.size ∧ (g.1.dirty = true ∨ g.2 = g.1.size) ∧ lenW g.1.first (g.1.es.take (k + 1 - g.1.first)) ≤ g.2
  one : 1 ≤ n
  lim : af ≤ 2100
  wt : wtW xs ≤ 20010
theorem neW {H : List (Wg × Nat)} (h : ∀ g ∈ H, g.1.es ≠ []) : ∀ g ∈ gsW H, g.es ≠ [] := fun g hg => by
  obtain ⟨q, hq, rfl⟩ := List.mem_map.1 hg
  exact h q hq
theorem Lone.nil {k : Nat} : Lone 1 k [] 1 [] := ⟨rfl, by simp, rfl, by simp, by simp, by decide, by decide, by decide⟩
theorem tot_sizes (pre : ByteArray) : ∀ (H : List (Wg × Nat)) (n af : Nat), ChG n (gsW H) af → af ≤ 2100 → totS (fsW pre H) ≤ wtW (flatG (gsW H)) ∧ ∀ g ∈ H, g.1.size ≤ totS (fsW pre H)
  | [], n, af, _, _ => by simp [fsW, totS]
  | g :: H, n, af, ⟨h1, h2, h3⟩, hl => by
    obtain ⟨i1, i2⟩ := tot_sizes pre H _ _ h3 hl
    have h4 := (ChG.mem (G := g.1 :: gsW H) ⟨h1, h2, h3⟩ g.1 (List.mem_cons_self ..)).2
    rw [Wg.next] at h4
    have h5 := lenW_le g.1.es g.1.first (by omega)
    have e1 : totS (fsW pre (g :: H)) = g.1.size + totS (fsW pre H) := by
      simp [totS, fsW, fileW, recsW_len, Wg.size]
    have e2 : wtW (flatG (gsW (g :: H))) = wtW g.1.es + wtW (flatG (gsW H)) := by
      rw [gsW, List.map_cons, flatG_cons, wtW_app]; rfl
    have e3 : g.1.size = lenW g.1.first g.1.es := rfl
    refine ⟨by omega, fun q hq => ?_⟩
    rcases List.mem_cons.1 hq with rfl | hq
    · omega
    · have := i2 q hq; omega
theorem len_big (pre : ByteArray) : ∀ (H : List (Wg × Nat)), (∀ g ∈ H, 1024 ≤ g.1.size) → 1024 * H.length ≤ totS (fsW pre H)
  | [], _ => by simp
  | g :: H, h => by
    have i := len_big pre H fun q hq => h q (List.mem_cons_of_mem _ hq)
    have e1 : totS (fsW pre (g :: H)) = g.1.size + totS (fsW pre H) := by
      simp [totS, fsW, fileW, recsW_len, Wg.size]
    have := h g (List.mem_cons_self ..)
    rw [List.length_cons]; omega
theorem totS_app (A B : List Fl) : totS (A ++ B) = totS A + totS B := by simp [totS]
section
variable {n k af : Nat} {H : List (Wg × Nat)} {xs : List (List UInt8)} (h : Lone n k H af xs)
include h
theorem Lone.tot (pre : ByteArray) : totS (fsW pre H) ≤ 20010 := by
  have := (tot_sizes pre H n af h.ch h.lim).1
  have := h.wt
  have := h.flat
  simp_all; omega
theorem Lone.few : H.length ≤ 100 := by
  have h1 := len_big ⟨#[]⟩ H.dropLast h.big
  have h2 := h.tot ⟨#[]⟩
  have h3 : totS (fsW ⟨#[]⟩ H.dropLast) ≤ totS (fsW ⟨#[]⟩ H) := by
    rcases List.eq_nil_or_concat H with rfl | ⟨A, g, rfl⟩
    · exact Nat.le_refl _
    · rw [List.concat_eq_append, List.dropLast_concat, fsW, fsW, List.map_append, totS_app]
      omega
  rw [List.length_dropLast] at h1
  omega
theorem Lone.sz : ∀ g ∈ gsW H, (1 ≤ g.first ∧ g.first ≤ 2100) ∧ g.size ≤ 20010 ∧ g.es.length ≤ 2100 := fun g hg => by
  obtain ⟨q, hq, rfl⟩ := List.mem_map.1 hg
  have h1 := h.ch.mem q.1 (List.mem_map.2 ⟨q, hq, rfl⟩)
  have h2 := (tot_sizes ⟨#[]⟩ H n af h.ch h.lim).2 q hq
  have h3 := h.tot ⟨#[]⟩
  have h4 := h.lim
  have h5 := h.one
  rw [Wg.next] at h1
  omega
theorem Lone.hfs : ∀ g ∈ gsW H, g.first ≤ 99999999 ∧ g.size ≤ 1073741824 := fun g hg => by
  have := h.sz g hg; omega
theorem Lone.hlen : (gsW H).length ≤ 1000000000 := by
  have := h.few
  rw [gsW, List.length_map]; omega
theorem Lone.entry : ∀ q ∈ H, (∀ x ∈ q.1.es, x.length ≤ 1048566) ∧ q.1.es.length ≤ 1000000000 := fun q hq => by
  refine ⟨fun x hx => ?_, by have := h.sz q.1 (List.mem_map.2 ⟨q, hq, rfl⟩); omega⟩
  have h1 : x ∈ xs := by
    rw [← h.flat, flatG]
    exact List.mem_flatMap.2 ⟨q.1, List.mem_map.2 ⟨q, hq, rfl⟩, hx⟩
  have := wtW_mem h1
  have := h.wt
  omega
/-- the log, opened anew -/
theorem Lone.opened (pre : ByteArray) : (openG pre (fsW pre H)).G = (gsW H).map (fun g => ⟨g.first, g.es, true⟩) ∧ (H ≠ [] → (openG pre (fsW pre H)).af = af) ∧ (openG pre (fsW pre H)).S = fsW pre H := by
  cases H with
  | nil => exact ⟨by simp [fsW, openG, names, gsW], by simp, by simp [fsW, openG, names]⟩
  | cons g H =>
    have hc : ∀ (H : List (Wg × Nat)) (n af : Nat), ChG n (gsW H) af → chW n H ∧ lastN n H = af := by
      intro H
      induction H with
      | nil => intro n af h; exact ⟨trivial, h⟩
      | cons q H ih =>
        intro n af h
        obtain ⟨h1, h2, h3⟩ := h
        obtain ⟨h4, h5⟩ := ih _ _ h3
        exact ⟨⟨h1, h4⟩, h5⟩
    obtain ⟨c1, c2⟩ := hc _ _ _ h.ch.2.2
    have hr : (g :: H).Pairwise fun a b => a.1.first < b.1.first := by
      have := h.ch.rises
      rw [gsW, List.pairwise_map] at this
      exact this
    have ho := openG_whole (pre := pre) c1 hr (fun q hq => by have := h.sz q.1 (List.mem_map.2 ⟨q, hq, rfl⟩); omega) h.entry
    rw [fsW, ho]
    refine ⟨by simp [gsW, Function.comp_def], fun _ => c2, rfl⟩
end
/-- an entry is laid -/
theorem Lone.append {pre : ByteArray} {n k af : Nat} {H : List (Wg × Nat)} {xs : List (List UInt8)} {x : List UInt8} (h : Lone n k H af xs) (hp : 1 ≤ pre.size ∧ pre.size ≤ 55) (hw : wtW (xs ++ [x]) ≤ 20010) (hk : k < af) (ha : af < 2100) :
    ∃ H', Lone n k H' (af + 1) (xs ++ [x]) ∧ apE pre 1048576 (fsW pre H) (gsW H) af x = 0 ∧ apS pre 1048576 (fsW pre H) (gsW H) af x = fsW pre H' ∧ apG (gsW H) af x = gsW H' := by
  have hxl : x.length ≤ 20000 := by
    have := wtW_mem (xs := xs ++ [x]) (x := x) (by simp)
    omega
  have hr := recL_le (n := af) (by omega) x
  have htot := h.tot pre
  have hfew := h.few
  have hne0 := neW h.ne
  have hcm := h.ch.mem
  have hsz : ∀ m, m ≤ 99999999 → 1 ≤ (wnm pre m).size ∧ (wnm pre m).size ≤ 64 := fun m hm => by
    have := wnm_size (pre := pre) hm
    omega
  have hfirst : ∀ g ∈ H, g.1.first < af := fun g hg => by
    have h1 := hcm g.1 (List.mem_map.2 ⟨g, hg, rfl⟩)
    have h2 := List.length_pos_iff.2 (h.ne g hg)
    rw [Wg.next] at h1
    omega
  have hE : ∀ m, m ≤ 99999999 → appE 1048576 (fsW pre H) (wnm pre m) (recL af x) = 0 := fun m hm => by
    have := hsz m hm
    have hl : (fsW pre H).length = H.length := List.length_map _
    rw [appE, if_neg (by omega), if_neg (by rw [hl]; omega)]
  by_cases hf : freshW (gsW H) = true
  · have ht : takesW (gsW H) af = af := by
      unfold freshW at hf
      unfold takesW
      cases hl : lastW (gsW H) with
      | none => rfl
      | some g => rw [hl] at hf; simp only [decide_eq_true_eq] at hf; simp only [hf, if_true]
    refine ⟨H ++ [(⟨af, [x], true⟩, 0)], ?_, ?_, ?_, ?_⟩
    · refine ⟨?_, ?_, ?_, ?_, ?_, h.one, by omega, hw⟩
      · rw [gsW, List.map_append]
        exact ChG.app h.ch hne0 ⟨rfl, fun hc => absurd rfl hc, rfl⟩
      · intro g hg
        rcases List.mem_append.1 hg with hg | hg
        · exact h.ne g hg
        · rw [List.mem_singleton.1 hg]; simp
      · rw [gsW, List.map_append, flatG_app, ← h.flat]; simp [flatG, gsW]
      · rw [List.dropLast_concat]
        intro g hg
        rcases List.eq_nil_or_concat H with rfl | ⟨A, q, rfl⟩
        · simp at hg
        · rw [List.concat_eq_append] at hg hf
          rcases List.mem_append.1 hg with hA | hq
          · exact h.big g (by rw [List.concat_eq_append, List.dropLast_concat]; exact hA)
          · obtain rfl := List.mem_singleton.1 hq
            simp [freshW, lastW, gsW] at hf
            exact hf
      · intro g hg
        rcases List.mem_append.1 hg with hg | hg
        · exact h.la g hg
        · rw [List.mem_singleton.1 hg]
          refine ⟨Nat.zero_le _, .inl rfl, ?_⟩
          rw [show k + 1 - af = 0 by omega]
          simp [lenW]
    · rw [apE, if_neg (by omega), if_neg (by omega), ht]
      exact hE _ (by omega)
    · have hg : getS (fsW pre H) (wnm pre af) = none := getS_nm (nm_apart (by omega) hfirst)
      rw [apS, if_neg (by omega), ht, appS, show (encF (encU af ++ x)).length = recL af x from recW_len _ _, if_pos (hE _ (by omega)), appF, hg]
      dsimp only
      rw [putS_end (nm_apart (pre := pre) (by omega) hfirst), fsW, fsW, List.map_append]
      simp [fileW, recsW]
    · rw [apG, if_pos hf, gsW, gsW, List.map_append]; rfl
  · rcases List.eq_nil_or_concat H with rfl | ⟨A, g, rfl⟩
    · exact absurd rfl hf
    rw [List.concat_eq_append] at *
    have hG : gsW (A ++ [g]) = gsW A ++ [g.1] := by simp [gsW]
    have hgm : g ∈ A ++ [g] := by simp
    have hs : ¬ 1024 ≤ g.1.size := by
      intro hc
      apply hf
      rw [freshW, lastW, hG]; simp [hc]
    have ht : takesW (gsW (A ++ [g])) af = g.1.first := by
      rw [takesW, lastW, hG]; simp [hs]
    have hnx : g.1.next = af := h.ch.last g.1 (by rw [hG]; simp)
    have hl2 : g.1.first + g.1.es.length = af := hnx
    have hff := hfirst g hgm
    have hA : ∀ q ∈ A, q.1.first < g.1.first := by
      have := h.ch.rises
      rw [hG, List.pairwise_append] at this
      intro q hq
      exact this.2.2 q.1 (List.mem_map.2 ⟨q, hq, rfl⟩) g.1 (by simp)
    refine ⟨A ++ [(⟨g.1.first, g.1.es ++ [x], true⟩, g.2)], ?_, ?_, ?_, ?_⟩
    · refine ⟨?_, ?_, ?_, ?_, ?_, h.one, by omega, hw⟩
      · have hc := h.ch
        rw [hG] at hc
        obtain ⟨m, hA', hB'⟩ := hc.split
        rw [gsW, List.map_append]
        refine ChG.app hA' (fun q hq => hne0 q (by rw [hG]; exact List.mem_append_left _ hq)) ⟨hB'.1, fun hc => absurd rfl hc, ?_⟩
        show g.1.first + (g.1.es ++ [x]).length = af + 1
        rw [List.length_append, List.length_singleton]; omega
      · intro q hq
        rcases List.mem_append.1 hq with hq | hq
        · exact h.ne q (List.mem_append_left _ hq)
        · rw [List.mem_singleton.1 hq]; simp
      · have := h.flat
        rw [hG, flatG_app] at this
        rw [gsW, List.map_append, flatG_app, ← this]
        simp [flatG, gsW]
      · rw [List.dropLast_concat]
        intro q hq
        exact h.big q (by rw [List.dropLast_concat]; exact hq)
      · intro q hq
        rcases List.mem_append.1 hq with hq | hq
        · exact h.la q (List.mem_append_left _ hq)
        · rw [List.mem_singleton.1 hq]
          obtain ⟨l1, l2, l3⟩ := h.la g hgm
          refine ⟨?_, .inl rfl, ?_⟩
          · show g.2 ≤ lenW g.1.first (g.1.es ++ [x])
            rw [lenW_snoc]
            have : g.1.size = lenW g.1.first g.1.es := rfl
            omega
          · show lenW g.1.first ((g.1.es ++ [x]).take (k + 1 - g.1.first)) ≤ g.2
            rw [List.take_append_of_le_length (by omega)]
            exact l3
    · rw [apE, if_neg (by omega), if_neg (by omega), ht]
      exact hE _ (by omega)
    · have hS : fsW pre (A ++ [g]) = fsW pre A ++ [fileW pre g] := by simp [fsW]
      have hg : getS (fsW pre (A ++ [g])) (wnm pre g.1.first) = some (fileW pre g) := by
        rw [hS]
        exact getS_at (nm_apart (by omega) hA) rfl
      rw [apS, if_neg (by omega), ht, appS, show (encF (encU af ++ x)).length = recL af x from recW_len _ _, if_pos (hE _ (by omega)), appF, hg]
      dsimp only
      have hput : putS (fsW pre A ++ [fileW pre g]) ⟨wnm pre g.1.first, (fileW pre g).d ++ encF (encU af ++ x), (fileW pre g).la⟩ = fsW pre A ++ [⟨wnm pre g.1.first, (fileW pre g).d ++ encF (encU af ++ x), (fileW pre g).la⟩] :=
        putS_at (A := fsW pre A) (C := []) (nm_apart (pre := pre) (n := g.1.first) (by omega) hA) rfl
      rw [hS, hput]
      simp [fsW, fileW, recsW_snoc, hl2]
    · rw [apG, if_neg hf, hG, putW_snoc]; simp [gsW]
end Go.Proofs.YtjafamiaahabgaaGreatDoor
