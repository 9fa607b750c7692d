/- wal, plain: one log alone on its disk, opened behind a crash. Nothing is claimed here. -/
import Derived.Test.YtjafamiaahabgaaGreatDoorAx
namespace Go.Proofs.YtjafamiaahabgaaGreatDoor
open Go.RowKit Go.Lib
set_option linter.unusedVariables false
set_option linter.unusedSimpArgs false
set_option maxRecDepth 100000

theorem rdW_fuel : ∀ (f n : Nat) (b : List UInt8), b.length ≤ f → ∀ d, rdW (f + d) n b = rdW f n b
  | 0, n, b, h, d => by
    obtain rfl := List.eq_nil_of_length_eq_zero (show b.length = 0 by omega)
    rw [rdW_nil, rdW_nil]
  | f + 1, n, b, h, d => by
    rw [show f + 1 + d = (f + d) + 1 by omega]
    unfold rdW
    by_cases hc : b ≠ [] ∧ hdW n b = true
    · rw [if_pos hc, if_pos hc]
      have := recL_ge n (hdX b)
      rw [rdW_fuel f (n + 1) (b.drop (recL n (hdX b))) (by rw [List.length_drop]; omega) d]
    · rw [if_neg hc, if_neg hc]
/-- a segment's file of which c bytes are there -/
def tornF (pre : ByteArray) (c : Wg × Nat → Nat) (g : Wg × Nat) : Fl := ⟨wnm pre g.1.first, (recsW g.1.first g.1.es).take (c g), c g⟩
theorem torn_rd {n c : Nat} {xs : List (List UInt8)} (hx : ∀ x ∈ xs, x.length ≤ 1048566) (hn : n + xs.length < 18446744073709551616) (hc : c ≤ lenW n xs) :
    ∃ j, j ≤ xs.length ∧ rdW (((recsW n xs).take c).length + 1) n ((recsW n xs).take c) = (xs.take j, lenW n (xs.take j)) ∧ lenW n (xs.take j) ≤ c ∧ (c = lenW n xs → j = xs.length) ∧ (∀ i, lenW n (xs.take i) ≤ c → i ≤ xs.length → i ≤ j) := by
  obtain ⟨j, h1, h2, h3⟩ := rdW_take xs n c (((recsW n xs).take c).length + (1 + xs.length)) hx hn hc (by omega)
  rw [rdW_fuel _ _ _ (Nat.le_refl _)] at h2
  exact ⟨j, h1, by rw [rdW_fuel _ _ _ (Nat.le_refl _)]; exact h2, h3⟩
theorem open_false {pre : ByteArray} : ∀ (H : List (Wg × Nat)) (o : Ost), o.good = false → (∀ g ∈ H, g.1.first ≤ 99999999) →
    ((H.map fun g => wnm pre g.1.first).foldl (openStep pre) o).G = o.G ∧ ((H.map fun g => wnm pre g.1.first).foldl (openStep pre) o).af = o.af
  | [], o, _, _ => ⟨rfl, rfl⟩
  | g :: H, o, ho, hf => by
    have hs : openStep pre o (wnm pre g.1.first) = ⟨o.G, o.af, delS o.S (wnm pre g.1.first), false⟩ := by
      rw [openStep, numG_wnm (hf g (List.mem_cons_self ..))]
      simp [ho]
    rw [List.map_cons, List.foldl_cons, hs]
    exact open_false H _ rfl (fun q hq => hf q (List.mem_cons_of_mem _ hq))
theorem open_stop {pre : ByteArray} {H : List (Wg × Nat)} {o : Ost} (ho : o.good = true) (hG : o.G ≠ []) (hf : ∀ g ∈ H, g.1.first ≤ 99999999) (hn : ∀ g, H.head? = some g → g.1.first ≠ o.af) :
    ((H.map fun g => wnm pre g.1.first).foldl (openStep pre) o).G = o.G ∧ ((H.map fun g => wnm pre g.1.first).foldl (openStep pre) o).af = o.af := by
  cases H with
  | nil => exact ⟨rfl, rfl⟩
  | cons g H =>
    have hs : openStep pre o (wnm pre g.1.first) = ⟨o.G, o.af, delS o.S (wnm pre g.1.first), false⟩ := by
      rw [openStep, numG_wnm (hf g (List.mem_cons_self ..))]
      simp only [ho, if_true]
      rw [readG, if_pos (.inr ⟨hG, hn g rfl⟩)]
    rw [List.map_cons, List.foldl_cons, hs]
    exact open_false H _ rfl (fun q hq => hf q (List.mem_cons_of_mem _ hq))
/-- what is opened behind a crash is a beginning of what was there, and all that lasts -/
theorem open_torn {pre : ByteArray} {S : List Fl} {c : Wg × Nat → Nat} : ∀ (H : List (Wg × Nat)) (G : List Wg) (n e : Nat), ChG n (gsW H) e → 1 ≤ n → (∀ g ∈ H, g.1.es ≠ []) →
    (∀ g ∈ H, g.1.first ≤ 99999999 ∧ (∀ x ∈ g.1.es, x.length ≤ 1048566) ∧ g.1.es.length ≤ 1000000000 ∧ c g ≤ g.1.size ∧ getS S (wnm pre g.1.first) = some (tornF pre c g)) →
    ∃ G2 m, ((H.map fun g => wnm pre g.1.first).foldl (openStep pre) ⟨G, n, S, true⟩).G = G ++ G2 ∧ ((H.map fun g => wnm pre g.1.first).foldl (openStep pre) ⟨G, n, S, true⟩).af = n + m ∧ ChG n G2 (n + m) ∧ flatG G2 = (flatG (gsW H)).take m ∧ m ≤ (flatG (gsW H)).length ∧
      (∀ g ∈ G2, 1 ≤ g.first ∧ g.first ≤ 99999999) ∧ ∀ k, (∀ g ∈ H, lenW g.1.first (g.1.es.take (k + 1 - g.1.first)) ≤ c g) → k + 1 ≤ n + m ∨ e ≤ n + m
  | [], G, n, e, hc, _, _, _ => ⟨[], 0, by simp, rfl, rfl, rfl, by simp, by simp, fun k _ => .inr (by have : n = e := hc; omega)⟩
  | g :: H, G, n, e, hc, h1, hne, hf => by
    obtain ⟨hg1, hg2, hg3⟩ := hc
    have hg1 : g.1.first = n := hg1
    have hg3 : ChG g.1.next (gsW H) e := hg3
    obtain ⟨k1, k2, k3, k4, k5⟩ := hf g (List.mem_cons_self ..)
    have hge := hne g (List.mem_cons_self ..)
    have hpos := List.length_pos_iff.2 hge
    have hfs : ∀ q ∈ H, q.1.first ≤ 99999999 := fun q hq => (hf q (List.mem_cons_of_mem _ hq)).1
    have hnx : g.1.next = g.1.first + g.1.es.length := rfl
    have hszd : g.1.size = lenW g.1.first g.1.es := rfl
    have hD : fileD S (wnm pre g.1.first) = (recsW g.1.first g.1.es).take (c g) := by rw [fileD, k5]; rfl
    have hDl : ((recsW g.1.first g.1.es).take (c g)).length = c g := by rw [List.length_take, recsW_len]; exact Nat.min_eq_left k4
    obtain ⟨j, j1, j2, j3, j4, j5⟩ := torn_rd (n := g.1.first) (c := c g) k2 (by omega) k4
    rw [List.map_cons, List.foldl_cons]
    have hst : openStep pre ⟨G, n, S, true⟩ (wnm pre g.1.first) = if lenW g.1.first (g.1.es.take j) = c g then ⟨G ++ [⟨g.1.first, g.1.es.take j, true⟩], g.1.first + (g.1.es.take j).length, S, true⟩ else
        if lenW g.1.first (g.1.es.take j) = 0 then ⟨G, n, delS S (wnm pre g.1.first), false⟩ else
        ⟨G ++ [⟨g.1.first, g.1.es.take j, true⟩], g.1.first + (g.1.es.take j).length, cutS S (wnm pre g.1.first) (lenW g.1.first (g.1.es.take j) : Int), false⟩ := by
      rw [openStep, numG_wnm k1]
      simp only [if_true]
      rw [readG, if_neg (by
        rintro (h | ⟨_, h⟩)
        · omega
        · exact h hg1)]
      dsimp only
      rw [hD, j2, hDl]
    rw [hst]
    have hjl : (g.1.es.take j).length = j := by rw [List.length_take]; omega
    have hflat : ∀ m, m ≤ g.1.es.length → (flatG (gsW (g :: H))).take m = g.1.es.take m := fun m hm => by
      show (flatG (g.1 :: gsW H)).take m = _
      rw [flatG_cons, List.take_append_of_le_length hm]
    have hfll : (flatG (gsW (g :: H))).length = g.1.es.length + (flatG (gsW H)).length := by
      show (flatG (g.1 :: gsW H)).length = _
      rw [flatG_cons, List.length_append]
    have hkept : j < g.1.es.length → ∀ k, (∀ q ∈ g :: H, lenW q.1.first (q.1.es.take (k + 1 - q.1.first)) ≤ c q) → k + 1 ≤ n + j := fun hj k hk => by
      have h2 := hk g (List.mem_cons_self ..)
      by_cases hkk : k + 1 - g.1.first ≤ g.1.es.length
      · have := j5 _ h2 hkk
        omega
      · rw [List.take_of_length_le (by omega)] at h2
        have := j5 g.1.es.length (by rw [List.take_length]; exact h2) (Nat.le_refl _)
        omega
    have hone : ∀ q ∈ [(⟨g.1.first, g.1.es.take j, true⟩ : Wg)], 1 ≤ q.first ∧ q.first ≤ 99999999 := fun q hq => by
      obtain rfl := List.mem_singleton.1 hq
      show 1 ≤ g.1.first ∧ g.1.first ≤ 99999999
      omega
    by_cases hw : lenW g.1.first (g.1.es.take j) = c g
    · rw [if_pos hw, hjl]
      by_cases hj : j = g.1.es.length
      · have hE : g.1.first + j = g.1.next := by omega
        rw [hE]
        obtain ⟨G2, m, q1, q2, q3, q4, q5, q6, q7⟩ := open_torn (S := S) (c := c) H (G ++ [⟨g.1.first, g.1.es.take j, true⟩]) g.1.next e hg3 (by omega) (fun q hq => hne q (List.mem_cons_of_mem _ hq)) (fun q hq => hf q (List.mem_cons_of_mem _ hq))
        refine ⟨⟨g.1.first, g.1.es.take j, true⟩ :: G2, g.1.es.length + m, by rw [q1]; simp, by rw [q2]; omega, ⟨hg1, fun _ => ?_, ?_⟩, ?_, by omega, fun q hq => ?_, fun k hk => ?_⟩
        · rw [hj, List.take_length]; exact hge
        · show ChG (g.1.first + (g.1.es.take j).length) G2 _
          rw [hjl, hE, show n + (g.1.es.length + m) = g.1.next + m by omega]
          exact q3
        · rw [flatG_cons, q4]
          show _ = (flatG (g.1 :: gsW H)).take _
          rw [flatG_cons, List.take_append, hj, List.take_length, List.take_of_length_le (l := g.1.es) (by omega), Nat.add_sub_cancel_left]
        · rcases List.mem_cons.1 hq with rfl | hq
          · exact hone _ (List.mem_singleton.2 rfl)
          · exact q6 q hq
        · have := q7 k (fun q hq => hk q (List.mem_cons_of_mem _ hq))
          omega
      · have hjlt : j < g.1.es.length := by omega
        obtain ⟨s1, s2⟩ := open_stop (pre := pre) (H := H) (o := ⟨G ++ [⟨g.1.first, g.1.es.take j, true⟩], g.1.first + j, S, true⟩) rfl (by simp) hfs (fun q hq => by
          cases H with
          | nil => simp at hq
          | cons q' H' =>
            simp only [List.head?_cons, Option.some.injEq] at hq
            subst hq
            have : q'.1.first = g.1.next := hg3.1
            dsimp only
            omega)
        refine ⟨[⟨g.1.first, g.1.es.take j, true⟩], j, s1, by rw [s2]; show g.1.first + j = n + j; omega, ⟨hg1, fun h => absurd rfl h, ?_⟩, ?_, by omega, hone, fun k hk => .inl (hkept hjlt k hk)⟩
        · show g.1.first + (g.1.es.take j).length = n + j
          omega
        · rw [hflat j j1]; simp [flatG]
    · rw [if_neg hw]
      have hjlt : j < g.1.es.length := by
        refine Nat.lt_of_le_of_ne j1 fun h => hw ?_
        rw [h, List.take_length] at j3 ⊢
        omega
      by_cases h0 : lenW g.1.first (g.1.es.take j) = 0
      · rw [if_pos h0]
        obtain ⟨s1, s2⟩ := open_false (pre := pre) H ⟨G, n, delS S (wnm pre g.1.first), false⟩ rfl hfs
        have hj0 : j = 0 := by
          have := lenW_ge g.1.first (g.1.es.take j)
          omega
        subst hj0
        exact ⟨[], 0, by rw [s1]; simp, s2, rfl, rfl, Nat.zero_le _, by simp, fun k hk => .inl (hkept hjlt k hk)⟩
      · rw [if_neg h0, hjl]
        obtain ⟨s1, s2⟩ := open_false (pre := pre) H ⟨G ++ [⟨g.1.first, g.1.es.take j, true⟩], g.1.first + j, cutS S (wnm pre g.1.first) (lenW g.1.first (g.1.es.take j) : Int), false⟩ rfl hfs
        refine ⟨[⟨g.1.first, g.1.es.take j, true⟩], j, s1, by rw [s2]; show g.1.first + j = n + j; omega, ⟨hg1, fun h => absurd rfl h, ?_⟩, ?_, by omega, hone, fun k hk => .inl (hkept hjlt k hk)⟩
        · show g.1.first + (g.1.es.take j).length = n + j
          omega
        · rw [hflat j j1]; simp [flatG]
theorem getS_F {pre : ByteArray} {F : Wg × Nat → Fl} (hF : ∀ g, (F g).nm = wnm pre g.1.first) : ∀ {H : List (Wg × Nat)} {g : Wg × Nat}, (∀ q ∈ H, q.1.first ≤ 99999999) → (H.Pairwise fun a b => a.1.first < b.1.first) → g ∈ H → getS (H.map F) (wnm pre g.1.first) = some (F g)
  | q :: H, g, hf, hr, hg => by
    rw [List.map_cons, getS, hF]
    rcases List.mem_cons.1 hg with rfl | hg
    · rw [if_pos rfl]
    · have h1 := (List.pairwise_cons.1 hr).1 g hg
      rw [if_neg]
      · exact getS_F hF (fun x hx => hf x (List.mem_cons_of_mem _ hx)) (List.pairwise_cons.1 hr).2 hg
      · intro h
        have := wnm_inj (hf q (List.mem_cons_self ..)) (hf g (List.mem_cons_of_mem _ hg)) h
        omega
def keptC (S : List Fl) (pre : ByteArray) (draw : Int) (g : Wg × Nat) : Nat := stays draw (rank S (fileW pre g)) (fileW pre g)
theorem crash_W (pre : ByteArray) (draw : Int) (H : List (Wg × Nat)) : crashS (fsW pre H) draw = H.map (tornF pre (keptC (fsW pre H) pre draw)) := by
  show (H.map (fileW pre)).map (fun f => crash1 draw (rank (fsW pre H) f) f) = _
  rw [List.map_map]
  rfl
/-- a log behind a crash, opened -/
theorem Lone.crash {pre : ByteArray} {k af : Nat} {H : List (Wg × Nat)} {xs : List (List UInt8)} (draw : Int) (h : Lone 1 k H af xs) :
    ∃ m, ChG 1 (openG pre (crashS (fsW pre H) draw)).G (1 + m) ∧ (openG pre (crashS (fsW pre H) draw)).af = 1 + m ∧ flatG (openG pre (crashS (fsW pre H) draw)).G = xs.take m ∧ m ≤ xs.length ∧ (k ≤ m ∨ xs.length ≤ m) ∧ ∀ g ∈ (openG pre (crashS (fsW pre H) draw)).G, 1 ≤ g.first ∧ g.first ≤ 99999999 := by
  rw [crash_W]
  generalize hc : keptC (fsW pre H) pre draw = c
  have hcl : ∀ g ∈ H, g.2 ≤ c g ∧ c g ≤ g.1.size := fun g hg => by
    have hl : (fileW pre g).d.length = g.1.size := recsW_len _ _
    have := (stays_le (draw := draw) (i := rank (fsW pre H) (fileW pre g)) (f := fileW pre g) (by rw [hl]; exact (h.la g hg).1))
    rw [hl] at this
    rw [← hc]
    exact this
  have hff : ∀ q ∈ H, q.1.first ≤ 99999999 := fun q hq => (h.hfs q.1 (List.mem_map.2 ⟨q, hq, rfl⟩)).1
  have hn : names (H.map (tornF pre c)) = H.map fun g => nmB (wnm pre g.1.first) := by
    rw [← names_W (pre := pre) hff (h.rise.imp fun h => Nat.le_of_lt h), names, names, List.map_map, List.map_map]
    rfl
  rw [openG, hn, List.map_map]
  have he : ((fun x => (⟨x.toArray⟩ : ByteArray)) ∘ fun g : Wg × Nat => nmB (wnm pre g.1.first)) = fun g => wnm pre g.1.first := by
    funext q
    simp [nmB]
  rw [he]
  obtain ⟨G2, m, q1, q2, q3, q4, q5, q6, q7⟩ := open_torn (pre := pre) (S := H.map (tornF pre c)) (c := c) H [] 1 af h.ch (by decide) h.ne (fun g hg => ⟨hff g hg, (h.entry g hg).1, (h.entry g hg).2, (hcl g hg).2, getS_F (fun _ => rfl) hff h.rise hg⟩)
  rw [List.nil_append] at q1
  rw [q1, q2, h.flat.symm]
  refine ⟨m, q3, rfl, q4, q5, ?_, q6⟩
  have hx := h.ch.af
  rcases q7 k (fun g hg => Nat.le_trans (h.la g hg).2.2 (hcl g hg).1) with h1 | h1
  · exact .inl (by omega)
  · exact .inr (by omega)
/-- a crash takes nothing of what lasts all -/
theorem crash_whole (pre : ByteArray) (draw : Int) (H : List (Wg × Nat)) (h : ∀ g ∈ H, g.2 = g.1.size) : crashS (fsW pre H) draw = fsW pre H := by
  rw [crash_W, fsW]
  refine List.map_congr_left fun g hg => ?_
  have hl : (fileW pre g).d.length = g.1.size := recsW_len _ _
  have e : (fileW pre g).la = g.1.size := h g hg
  have := (stays_le (draw := draw) (i := rank (fsW pre H) (fileW pre g)) (f := fileW pre g) (by omega))
  have hk : keptC (List.map (fileW pre) H) pre draw g = g.1.size := by
    show stays draw (rank (fsW pre H) (fileW pre g)) (fileW pre g) = _
    omega
  rw [tornF, hk, fileW, h g hg]
  congr 1
  exact List.take_of_length_le (by rw [recsW_len]; exact Nat.le_refl _)
theorem ChG.few : ∀ {G : List Wg} {n af : Nat}, ChG n G af → G.length ≤ (flatG G).length + 1
  | [], _, _, _ => by simp
  | [g], _, _, _ => by simp
  | g :: q :: gs, n, af, ⟨_, h2, h3⟩ => by
    have := ChG.few h3
    have := List.length_pos_iff.2 (h2 (by simp))
    rw [flatG_cons, List.length_append, List.length_cons]
    omega
theorem ChG.small : ∀ {G : List Wg} {n af : Nat}, ChG n G af → af ≤ 2101 → ∀ g ∈ G, g.first ≤ 2101 ∧ g.size ≤ wtW (flatG G)
  | q :: gs, n, af, ⟨h1, h2, h3⟩, ha, g, hg => by
    have h4 := h3.ge
    have h5 : q.next = q.first + q.es.length := rfl
    rw [flatG_cons, wtW_app]
    rcases List.mem_cons.1 hg with rfl | hg
    · have := lenW_le g.es g.first (by omega)
      have e : g.size = lenW g.first g.es := rfl
      omega
    · have := ChG.small h3 ha g hg
      omega
theorem ChG.hfs {G : List Wg} {n af : Nat} (h : ChG n G af) (ha : af ≤ 2101) (hw : wtW (flatG G) ≤ 20010) : (∀ g ∈ G, g.first ≤ 99999999 ∧ g.size ≤ 1073741824) ∧ G.length ≤ 1000000000 := by
  refine ⟨fun g hg => ?_, ?_⟩
  · have := h.small ha g hg
    omega
  · have h1 := h.few
    have h2 := wtW_len (flatG G)
    omega
end Go.Proofs.YtjafamiaahabgaaGreatDoor
