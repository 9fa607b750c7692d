/- ClientEnds, walked. Nothing is claimed here. -/
import Derived.Test.YtcjnaljdbbjojaaGreatDoorClzd
namespace Go.Proofs.YtcjnaljdbbjojaaGreatDoor
open Go.RowKit
open Go.Maps (Keyed)
set_option linter.unusedVariables false
set_option linter.unusedSimpArgs false
set_option maxRecDepth 100000

def retF (p : QB) : List Value := rC p.2.num (endE p.2) 0 0 0 (.slice none 0 0)
theorem retF_len (p : QB) : (retF p).length = 6 := rfl
/-- a call that comes in -/
structure Cin where
  kind : Int
  vol : Int
  key : Int
  ck : Int
  dv : Value
  d : List UInt8
def cinC (c : Cin) : List Value := [.int .i64 c.kind, .int .i64 c.vol, .int .u64 c.key, .int .u32 c.ck, c.dv]
theorem cinC_len (c : Cin) : (cinC c).length = 5 := rfl
structure InCin (w : World) (c : Cin) : Prop where
  sl : Sl w c.dv (bv c.d)
  len : c.d.length ≤ 140737488355328
set_option maxHeartbeats 32000000 in
theorem clientEnds_fn (v : Value) (cs : List Cin) (draw : Int) (w0 : World) (hs : SlN w0 5 v cs.length (cs.flatMap cinC)) (hin : ∀ c ∈ cs, InCin w0 c) :
    Fn Tryz.prog 4 #[v, .int .i64 draw] w0 fun r w' => r = .bool true ∧ Below w0.heap.size w0 w' := by
  have hL := Sep.start Tryz.prog w0
  have hB := Nat.le_refl w0.heap.size
  have hkn := fun w (hb : Below w0.heap.size w0 w) => (known_fn w).mono fun r w' (h : r = .bool true ∧ Below w.heap.size w w') => (⟨h.1, hb.trans (h.2.mono hb.size)⟩ : r = .bool true ∧ Below w0.heap.size w0 w')
  obtain ⟨va, vc, rfl⟩ := hs.shape
  refine Fn.mk Tryz.func4 rfl (by kernel_rfl) Tryz.ntmps4 rfl (by rw [Tryz.results4]) ?_
  repeat (first | (refine RunH ?_; intro w hL hB; try clear w) | (refine Both.mk ?_ ?_ <;> conv => whnf) | fail)
  by_cases h40 : 40 < cs.length
  · skip
    repeat (first | (refine RunH ?_; intro w hL hB; try clear w) | (refine Both.mk ?_ ?_ <;> conv => whnf) | fail)
    refine (hkn _ hL.below).mono fun r w ⟨hr, hb⟩ => ?_
    subst hr
    conv => whnf
    repeat (first | (refine RunH ?_; intro w hL hB; try clear w) | (refine Both.mk ?_ ?_ <;> conv => whnf) | fail)
    exact ⟨rfl, hb⟩
  repeat (first | (refine RunH ?_; intro w hL hB; try clear w) | (refine Both.mk ?_ ?_ <;> conv => whnf) | fail)
  refine V.loop (α := Nat × Nat) (fun z => [(0, .slice va cs.length vc), (1, .int .i64 draw), (5, .int .i64 (z.2 : Int)), (6, .int .i64 (z.1 : Int))])
    (fun z w' => z.1 ≤ cs.length ∧ z.2 ≤ z.1 * 140737488355328 ∧ (∀ (i : Nat) (c : Cin), cs[i]? = some c → i < z.1 → c.d.length ≤ z.2) ∧ w0.heap.size ≤ w'.heap.size ∧ Sep Tryz.prog w0.heap.size w0 w' []) (fun z => cs.length - z.1) (0, 0) ⟨rfl, rfl, rfl, rfl, trivial⟩ ⟨Nat.zero_le _, Nat.zero_le _, fun i c _ h => absurd h (Nat.not_lt_zero _), hB, hL⟩ ?_
  repeat clear hL
  repeat clear hB
  rintro ⟨k, n⟩ w ⟨hk, hn, hall, hB, hL⟩
  dsimp only at hk hn hall
  by_cases hkl : k < cs.length
  · have hget := List.getElem?_eq_getElem hkl
    have hi := hin _ (List.getElem_mem hkl)
    generalize hsk : cs[k] = c at *
    have h3 := hi.len
    obtain ⟨pa, pc, hpv⟩ : ∃ a e, c.dv = .slice a c.d.length e := by
      obtain ⟨a, e, he⟩ := hi.sl.shape
      rw [bv_length] at he
      exact ⟨a, e, he⟩
    obtain ⟨bb, o, rfl, _⟩ := hs.addr (by omega)
    have hrow : ∀ {w : World} {L : List Res}, Sep Tryz.prog w0.heap.size w0 w L → Row w bb o (cs.flatMap cinC) := fun h => (hs.below h.below).rowOf
    repeat (first | (refine RunH ?_; intro w hL hB; try clear w) | (refine Both.mk ?_ ?_ <;> conv => whnf) | fail)
    intro o1 ho1
    conv => whnf
    repeat (first | (refine RunH ?_; intro w hL hB; try clear w) | (refine Both.mk ?_ ?_ <;> conv => whnf) | fail)
    refine Ld.rowF ttOk cinC_len 4 (hrow hL) tl37 rfl hget (by rw [cinC, hpv]; rfl) (by omega) ?_
    conv => whnf
    repeat (first | (refine RunH ?_; intro w hL hB; try clear w) | (refine Both.mk ?_ ?_ <;> conv => whnf) | fail)
    refine ⟨(k + 1, n + c.d.length), ⟨rfl, rfl, vint (by push_cast; omega), vint (by push_cast; omega), trivial⟩, ⟨by omega, by omega, fun i x hx hi' => ?_, hB, hL⟩, (by first | omega | (dsimp only; omega))⟩
    dsimp only at hi' ⊢
    by_cases he : i = k
    · subst he
      rw [hget] at hx
      injection hx with hx
      subst hx
      omega
    · have := hall i x hx (by omega)
      omega
  obtain rfl : k = cs.length := by omega
  repeat (first | (refine RunH ?_; intro w hL hB; try clear w) | (refine Both.mk ?_ ?_ <;> conv => whnf) | fail)
  by_cases hbig : 40000 < n
  · skip
    repeat (first | (refine RunH ?_; intro w hL hB; try clear w) | (refine Both.mk ?_ ?_ <;> conv => whnf) | fail)
    refine (hkn _ hL.below).mono fun r w ⟨hr, hb⟩ => ?_
    subst hr
    conv => whnf
    repeat (first | (refine RunH ?_; intro w hL hB; try clear w) | (refine Both.mk ?_ ?_ <;> conv => whnf) | fail)
    exact ⟨rfl, hb⟩
  have hall2 : ∀ c ∈ cs, c.d.length ≤ 65536 := fun c hc => by
    obtain ⟨i, hi⟩ := List.getElem?_of_mem hc
    have := hall i c hi (List.getElem?_eq_some_iff.1 hi).1
    omega
  clear hall hk
  repeat (first | (refine RunH ?_; intro w hL hB; try clear w) | (refine Both.mk ?_ ?_ <;> conv => whnf) | (refine (config_fn _).mono fun r w hr => ?_; obtain ⟨hr, hw⟩ := hr; subst hr; replace hL := hL.call hB (Turns.of_below hw); replace hB := Nat.le_trans hB hw.size; conv => whnf) | fail)
  refine (new_fn _ hL hB).mono fun r w ⟨cb, cm, hr, hB, hL⟩ => ?_
  subst hr
  conv => whnf
  repeat (first | (refine RunH ?_; intro w hL hB; try clear w) | (refine Both.mk ?_ ?_ <;> conv => whnf) | fail)
  refine V.loop (α := Nat × Nat) (fun z => [(0, .slice va cs.length vc), (1, .int .i64 draw), (7, ptrN cb), (9, .int .i64 (z.2 : Int)), (10, .int .i64 (z.1 : Int))])
    (fun z w' => z.1 ≤ cs.length ∧ z.2 ≤ z.1 ∧ w0.heap.size ≤ w'.heap.size ∧ ∃ qs : List QB, qs.length = z.2 ∧ (nums qs).Pairwise (· < ·) ∧ (∀ p ∈ qs, Fresh 0 p.2 ∧ 1 ≤ p.2.num ∧ p.2.num ≤ z.2) ∧ Sep Tryz.prog w0.heap.size w0 w' (cR cb 0 (z.2 : Int) (z.2 : Int) cm (.slice none 0 0) (.slice none 0 0) :: .mp 3 cm ((kbs qs).map pE) :: (qRs qs ++ []))) (fun z => cs.length - z.1) (0, 0) ⟨rfl, rfl, rfl, rfl, rfl, trivial⟩ ⟨Nat.zero_le _, Nat.zero_le _, hB, [], rfl, .nil, by simp, by show Sep _ _ _ _ (cR cb 0 ((0 : Nat) : Int) ((0 : Nat) : Int) cm _ _ :: _); rw [show ((0 : Nat) : Int) = 0 from rfl]; exact hL⟩ ?_
  repeat clear hL
  repeat clear hB
  clear hn hbig
  clear n
  rintro ⟨k, n⟩ w ⟨hk, hn, hB, qs, hql, hpw, hfr, hL⟩
  dsimp only at hk hn hql hfr hL
  by_cases hkl : k < cs.length
  · have hget := List.getElem?_eq_getElem hkl
    have hi := hin _ (List.getElem_mem hkl)
    have hdl := hall2 _ (List.getElem_mem hkl)
    generalize hsk : cs[k] = c at *
    obtain ⟨bb, o, rfl, _⟩ := hs.addr (by omega)
    have hrow : ∀ {w : World} {L : List Res}, Sep Tryz.prog w0.heap.size w0 w L → Row w bb o (cs.flatMap cinC) := fun h => (hs.below h.below).rowOf
    repeat (first | (refine RunH ?_; intro w hL hB; try clear w) | (refine Both.mk ?_ ?_ <;> conv => whnf) | fail)
    intro o1 ho1
    conv => whnf
    refine Ld.rowN ttOk cinC_len (hrow hL) rfl rfl rfl hget (by omega) ?_
    conv => whnf
    repeat (first | (refine RunH ?_; intro w hL hB; try clear w) | (refine Both.mk ?_ ?_ <;> conv => whnf) | fail)
    refine (begin_many cb cm 0 n n qs c.kind c.vol c.key c.ck draw c.dv c.d [] (fun x hx => hi.sl.below hx) hdl (by omega) (by omega) (by omega) (by omega) (fun p hp => by have := (hfr p hp).2.2; omega) hL hB).mono fun r w ⟨ok, hB, hr⟩ => ?_
    rcases hr with ⟨rfl, hr, hL⟩ | ⟨rfl, qb, q, oa, on, oc, hr, hq, hqn, hL⟩
    · subst hr
      conv => whnf
      repeat (first | (refine RunH ?_; intro w hL hB; try clear w) | (refine Both.mk ?_ ?_ <;> conv => whnf) | fail)
      exact ⟨(k + 1, n), ⟨rfl, rfl, rfl, rfl, vint (by push_cast; omega), trivial⟩, ⟨by dsimp only; omega, by dsimp only; omega, hB, qs, hql, hpw, hfr, hL⟩, (by first | omega | (dsimp only; omega))⟩
    · subst hr
      conv => whnf
      repeat (first | (refine RunH ?_; intro w hL hB; try clear w) | (refine Both.mk ?_ ?_ <;> conv => whnf) | fail)
      refine ⟨(k + 1, n + 1), ⟨rfl, rfl, rfl, vint (by push_cast; omega), vint (by push_cast; omega), trivial⟩, ⟨by dsimp only; omega, by dsimp only; omega, hB, qs ++ [(qb, q)], by rw [List.length_append, hql]; rfl, ?_, fun p hp => ?_, ?_⟩, (by first | omega | (dsimp only; omega))⟩
      · rw [nums, List.map_append, List.pairwise_append]
        refine ⟨hpw, List.pairwise_singleton .., fun a ha b hb => ?_⟩
        obtain ⟨x, hx, rfl⟩ := List.mem_map.1 ha
        have := (hfr x hx).2.2
        simp only [List.map_cons, List.map_nil, List.mem_singleton] at hb
        omega
      · rcases List.mem_append.1 hp with hp | hp
        · have := hfr p hp
          exact ⟨this.1, this.2.1, by have := this.2.2; dsimp only; omega⟩
        · rw [List.mem_singleton] at hp
          subst hp
          exact ⟨hq, by dsimp only; omega, by dsimp only; omega⟩
      · dsimp only
        rw [show ((n + 1 : Nat) : Int) = (n : Int) + 1 from by push_cast; rfl]
        exact hL
  obtain rfl : k = cs.length := by omega
  repeat (first | (refine RunH ?_; intro w hL hB; try clear w) | (refine Both.mk ?_ ?_ <;> conv => whnf) | fail)
  obtain ⟨ns, hns⟩ : ∃ ns, nums qs = ns := ⟨_, rfl⟩
  have hnl : ns.length = n := by rw [← hns, nums_len, hql]
  have hn40 : n ≤ 40 := by omega
  have hnb : ∀ m ∈ ns, 0 ≤ m ∧ m ≤ 1000000 := fun m hm => by
    rw [← hns] at hm
    obtain ⟨x, hx, rfl⟩ := List.mem_map.1 hm
    have := hfr x hx
    omega
  rw [hns] at hpw
  refine V.loop (α := Nat × Value) (fun z => [(7, ptrN cb), (9, .int .i64 (n : Int)), (14, z.2), (15, .int .i64 (z.1 : Int))])
    (fun z w' => (z.1 ≤ 318 ∧ 0 < n ∧ z.2 = .slice none 0 0 ∧ Stt z.1 w0.heap.size w0 cb cm (n : Int) ns [] w') ∨
      (w0.heap.size ≤ w'.heap.size ∧ ∃ ea ec g tk, ∃ R : List Res, z.2 = .slice ea n ec ∧ Sep Tryz.prog w0.heap.size w0 w' (cR cb g (n : Int) tk cm (.slice none 0 0) (.slice none 0 0) :: .mp 3 cm [] :: R))) (fun z => 400 - z.1) (0, .slice none 0 0) ⟨rfl, rfl, rfl, rfl, trivial⟩ ?_ ?_
  · rcases Nat.eq_zero_or_pos n with h0 | h0
    · subst h0
      obtain rfl : qs = [] := List.eq_nil_of_length_eq_zero hql
      exact .inr ⟨hB, none, 0, 0, _, _, rfl, hL⟩
    · exact .inl ⟨by omega, h0, rfl, qs, 0, n, by omega, ⟨by omega, by dsimp only; omega⟩, hns, fun p hp => (hfr p hp).1.phase, hB, hL⟩
  repeat clear hL
  repeat clear hB
  clear hfr hql hns
  clear qs
  rintro ⟨T, v⟩ w (⟨hT, h0, hv, hst⟩ | ⟨hB, ea, ec, g, tk, R, hv, hL⟩)
  case inr =>
    dsimp only at hv
    subst hv
    have hcnt := count_fn cb cm g n tk _ _ [] R hL hB
    by_cases hT4 : T < 400
    · repeat (first | (refine RunH ?_; intro w hL hB; try clear w) | (refine Both.mk ?_ ?_ <;> conv => whnf) | (refine (hcnt).mono fun r w1 hr => ?_; obtain ⟨hr, hw⟩ := hr; subst hr; subst hw; conv => whnf) | fail)
      refine (hkn _ hL.below).mono fun r w ⟨hr, hb⟩ => ?_
      subst hr
      conv => whnf
      repeat (first | (refine RunH ?_; intro w hL hB; try clear w) | (refine Both.mk ?_ ?_ <;> conv => whnf) | fail)
      exact ⟨rfl, hb⟩
    · repeat (first | (refine RunH ?_; intro w hL hB; try clear w) | (refine Both.mk ?_ ?_ <;> conv => whnf) | (refine (hcnt).mono fun r w1 hr => ?_; obtain ⟨hr, hw⟩ := hr; subst hr; subst hw; conv => whnf) | fail)
      refine (hkn _ hL.below).mono fun r w ⟨hr, hb⟩ => ?_
      subst hr
      conv => whnf
      repeat (first | (refine RunH ?_; intro w hL hB; try clear w) | (refine Both.mk ?_ ?_ <;> conv => whnf) | fail)
      exact ⟨rfl, hb⟩
  dsimp only at hT hv hst
  subst hv
  have hcnt : Fn Tryz.prog 13 #[ptrN cb] w fun r w' => r = .int .i64 (n : Int) ∧ w' = w := by
    obtain ⟨qs, g, tk, _, _, hnq, _, hB, hL⟩ := hst
    have h := count_fn cb cm g n tk _ _ _ _ hL hB
    rwa [List.length_map, kbs_len, ← nums_len, hnq, hnl] at h
  by_cases hT2 : T ≤ 317
  · have hL := Sep.start Tryz.prog w
    have hB := Nat.le_refl w.heap.size
    repeat (first | (refine RunH ?_; intro w hL hB; try clear w) | (refine Both.mk ?_ ?_ <;> conv => whnf) | (refine (hcnt).mono fun r w1 hr => ?_; obtain ⟨hr, hw⟩ := hr; subst hr; subst hw; conv => whnf) | fail)
    clear hL hB
    refine (tick_phase T cb cm n ns [] hT2 hnb hpw (by omega) hst).mono fun r w ⟨oa, on, oc, hr, hst⟩ => ?_
    subst hr
    have hL := Sep.start Tryz.prog w
    have hB := Nat.le_refl w.heap.size
    conv => whnf
    repeat (first | (refine RunH ?_; intro w hL hB; try clear w) | (refine Both.mk ?_ ?_ <;> conv => whnf) | fail)
    clear hL hB
    refine V.loop (α := Unit) (fun _ => [(7, ptrN cb), (9, .int .i64 (n : Int)), (14, .slice none 0 0), (15, .int .i64 (T : Int)), (16, .slice none 0 0), (18, .int .i64 0)]) (fun _ w' => Stt (T + 1) w0.heap.size w0 cb cm (n : Int) ns [] w') (fun _ => 0) () ⟨rfl, rfl, rfl, rfl, rfl, rfl, trivial⟩ hst ?_
    clear hst hcnt
    rintro _ w hst
    have hL := Sep.start Tryz.prog w
    have hB := Nat.le_refl w.heap.size
    repeat (first | (refine RunH ?_; intro w hL hB; try clear w) | (refine Both.mk ?_ ?_ <;> conv => whnf) | fail)
    exact ⟨(T + 1, .slice none 0 0), ⟨rfl, rfl, rfl, vint (by push_cast; omega), trivial⟩, .inl ⟨by dsimp only; omega, h0, rfl, hst⟩, (by first | omega | (dsimp only; omega))⟩
  obtain rfl : T = 318 := by omega
  have hL := Sep.start Tryz.prog w
  have hB := Nat.le_refl w.heap.size
  repeat (first | (refine RunH ?_; intro w hL hB; try clear w) | (refine Both.mk ?_ ?_ <;> conv => whnf) | (refine (hcnt).mono fun r w1 hr => ?_; obtain ⟨hr, hw⟩ := hr; subst hr; subst hw; conv => whnf) | fail)
  clear hL hB
  refine (tick_last cb cm n ns [] hnb hpw (by omega) hst).mono fun r w ⟨rv, qs, g, tk, hr, hnq, hB, hL⟩ => ?_
  subst hr
  have hql : qs.length = n := by rw [← nums_len, hnq, hnl]
  obtain ⟨ra, rc, rfl⟩ := (show SlN w 6 rv qs.length _ from hL.rowN (i := 1) rfl).shape
  obtain ⟨⟨rb, rfl⟩, _⟩ := own_addr (hL.at (i := 1) rfl) (by omega)
  clear hcnt hst
  conv => whnf
  repeat (first | (refine RunH ?_; intro w hL hB; try clear w) | (refine Both.mk ?_ ?_ <;> conv => whnf) | fail)
  replace hL := (hL.nilRow 3 1).perm (List.perm_middle (l₁ := [_, _]))
  rw [hql] at hL ⊢
  have hnsq : ∀ (i : Nat) (p : QB), qs[i]? = some p → ns[i]? = some p.2.num := fun i p h => by rw [← hnq, nums, List.getElem?_map, h]; rfl
  refine V.loop (α := Nat × Value) (fun z => [(7, ptrN cb), (9, .int .i64 (n : Int)), (14, z.2), (15, .int .i64 318), (16, .slice (some ⟨rb, 0, none⟩) n rc), (18, .int .i64 (z.1 : Int))])
    (fun z w' => z.1 ≤ n ∧ w0.heap.size ≤ w'.heap.size ∧ Sep Tryz.prog w0.heap.size w0 w' (.row 51 6 (.slice (some ⟨rb, 0, none⟩) n rc) n (retC qs) :: .row 3 1 z.2 z.1 ((ns.take z.1).map iV) :: cR cb g (n : Int) tk cm (.slice none 0 0) (.slice none 0 0) :: .mp 3 cm [] :: [])) (fun z => n - z.1) (0, .slice none 0 0) ⟨rfl, rfl, rfl, rfl, rfl, rfl, trivial⟩ ⟨Nat.zero_le _, hB, hL⟩ ?_
  repeat clear hL
  repeat clear hB
  rintro ⟨i, ev⟩ w ⟨hi, hB, hL⟩
  dsimp only at hi hL
  obtain ⟨ea, ec, rfl⟩ := (show SlN w 1 ev i _ from hL.rowN (i := 1) rfl).shape
  by_cases hin2 : i < n
  case neg =>
    obtain rfl : i = n := by omega
    repeat (first | (refine RunH ?_; intro w hL hB; try clear w) | (refine Both.mk ?_ ?_ <;> conv => whnf) | fail)
    exact ⟨(319, _), ⟨rfl, rfl, rfl, rfl, trivial⟩, .inr ⟨hB, ea, ec, g, tk, _, rfl, hL.perm (List.perm_append_comm (l₁ := [_, _]) (l₂ := [_, _]))⟩, (by first | omega | (dsimp only; omega))⟩
  have hget := List.getElem?_eq_getElem (l := qs) (i := i) (by omega)
  generalize hp0 : qs[i] = p at hget
  have hnp := hnsq i p hget
  repeat (first | (refine RunH ?_; intro w hL hB; try clear w) | (refine Both.mk ?_ ?_ <;> conv => whnf) | fail)
  refine V.loop (α := Nat) (fun k => [(7, ptrN cb), (9, .int .i64 (n : Int)), (14, .slice ea i ec), (15, .int .i64 318), (16, .slice (some ⟨rb, 0, none⟩) n rc), (18, .int .i64 (i : Int)), (19, .int .i64 (k : Int))])
    (fun k w' => k ≤ i ∧ w0.heap.size ≤ w'.heap.size ∧ Sep Tryz.prog w0.heap.size w0 w' (.row 51 6 (.slice (some ⟨rb, 0, none⟩) n rc) n (retC qs) :: .row 3 1 (.slice ea i ec) i ((ns.take i).map iV) :: cR cb g (n : Int) tk cm (.slice none 0 0) (.slice none 0 0) :: .mp 3 cm [] :: [])) (fun k => i - k) 0 ⟨rfl, rfl, rfl, rfl, rfl, rfl, rfl, trivial⟩ ⟨Nat.zero_le _, hB, hL⟩ ?_
  repeat clear hL
  repeat clear hB
  rintro k w ⟨hk, hB, hL⟩
  by_cases hki : k < i
  · obtain ⟨⟨eb, rfl⟩, _⟩ := own_addr (show w.ownsRow 0 3 1 _ _ _ from hL.at (i := 1) rfl) (by omega)
    obtain ⟨a, hka⟩ : ∃ a, ns[k]? = some a := ⟨_, List.getElem?_eq_getElem (by omega)⟩
    have hke : ((ns.take i).map iV)[k]? = some (.int .i64 a) := by rw [List.getElem?_map, List.getElem?_take, if_pos hki, hka]; rfl
    have hne : ¬ a = p.2.num := fun e => by
      have := List.pairwise_iff_getElem.1 hpw k i (by omega) (by omega) hki
      obtain ⟨_, e1⟩ := List.getElem?_eq_some_iff.1 hka
      obtain ⟨_, e2⟩ := List.getElem?_eq_some_iff.1 hnp
      omega
    repeat (first | (refine RunH ?_; intro w hL hB; try clear w) | (refine Both.mk ?_ ?_ <;> conv => whnf) | fail)
    have hC : ∀ {x : World} {L' : List Res}, Sep Tryz.prog w0.heap.size w0 x L' → .row 51 6 (.slice (some ⟨rb, 0, none⟩) n rc) n (retC qs) ∈ L' → .row 3 1 (.slice (some ⟨eb, 0, none⟩) i ec) i ((ns.take i).map iV) ∈ L' → Row x rb 0 (retC qs) ∧ Row x eb 0 ((ns.take i).map iV) := fun {x L'} h a b => ⟨h.mrow a, h.mrow b⟩
    refine V.tree ttOk (fun x => Row x rb 0 (retC qs) ∧ Row x eb 0 ((ns.take i).map iV)) (.q 0 (.q 1 (.q 2 (.q 3 (.q 4 (.q 5 (.q 6 (.q 7 (.q 8 (.q 9 .nil)))))))))) mixed (by decide +kernel) (hC hL.drew (by repeat (first | exact .head _ | apply List.Mem.tail)) (by repeat (first | exact .head _ | apply List.Mem.tail))) ?_
    replace hL := hL.drew
    conv => whnf
    repeat (first | (refine RunH ?_; intro w hL hB; try clear w) | (refine Both.mk ?_ ?_ <;> conv => whnf) | (intro o9 ho9; conv => whnf) | (refine Lq.of_class (fun x hx => Ld.row1 ttOk hx.2 rfl rfl (k := k) hke (by omega) rfl) ?_; conv => whnf) | (refine Lq.of_class (fun x hx => Ld.rowF ttOk (f := retF) retF_len 0 hx.1 rfl rfl hget rfl (by omega) rfl) ?_; conv => whnf) | fail)
    exact ⟨k + 1, ⟨rfl, rfl, rfl, rfl, rfl, rfl, vint (by push_cast; omega), trivial⟩, ⟨by omega, hB, hL⟩, (by first | omega | (dsimp only; omega))⟩
  obtain rfl : k = i := by omega
  repeat (first | (refine RunH ?_; intro w hL hB; try clear w) | (refine Both.mk ?_ ?_ <;> conv => whnf) | (intro o9 ho9; conv => whnf) | (refine Ld.rowF ttOk (f := retF) retF_len 0 (hL.mrow (by repeat (first | exact .head _ | apply List.Mem.tail))) rfl rfl hget rfl (by omega) ?_; conv => whnf) | fail)
  refine Rv.buildS (len := 1) (vs := [.int .i64 p.2.num]) ttOk hL tl40 tl3 rfl rfl (by intro u hu; exact one_num hu) (by decide) (by decide) hB (fun bp w hL hB => ?_)
  conv => whnf
  repeat (first | (refine RunH ?_; intro w hL hB; try clear w) | (refine Both.mk ?_ ?_ <;> conv => whnf) | fail)
  refine Rv.appendS (m := 1) (news := [.int .i64 p.2.num]) ttOk hL tl40 tl3 rfl (by decide) 2 rfl (hL.rowN (i := 0) rfl) (by intro u hu; simp only [List.mem_singleton] at hu; subst hu; rfl) (by simp only [maxLen]; omega) (by omega) hB fun v' w hL hB => ?_
  dsimp only [List.set] at hL
  replace hL := hL.tl
  have htk : (ns.take k).map iV ++ [.int .i64 p.2.num] = (ns.take (k + 1)).map iV := by
    rw [List.take_add_one, hnp, List.map_append]; rfl
  rw [htk] at hL
  obtain ⟨ea2, ec2, rfl⟩ := (show SlN w 1 v' (k + 1) _ from hL.rowN (i := 1) rfl).shape
  have hee : endE p.2 = 16 ∨ endE p.2 = 14 := by unfold endE; split <;> simp
  rcases hee with hee | hee
  · conv => whnf
    repeat (first | (refine RunH ?_; intro w hL hB; try clear w) | (refine Both.mk ?_ ?_ <;> conv => whnf) | (intro o9 ho9; conv => whnf) | (refine Ld.rowF ttOk (f := retF) retF_len 1 (hL.mrow (by repeat (first | exact .head _ | apply List.Mem.tail))) rfl rfl hget rfl (by omega) ?_; rw [hee]; conv => whnf) | fail)
    exact ⟨(k + 1, _), ⟨rfl, rfl, rfl, rfl, rfl, vint (by push_cast; omega), trivial⟩, ⟨by dsimp only; omega, hB, hL⟩, (by first | omega | (dsimp only; omega))⟩
  · conv => whnf
    repeat (first | (refine RunH ?_; intro w hL hB; try clear w) | (refine Both.mk ?_ ?_ <;> conv => whnf) | (intro o9 ho9; conv => whnf) | (refine Ld.rowF ttOk (f := retF) retF_len 1 (hL.mrow (by repeat (first | exact .head _ | apply List.Mem.tail))) rfl rfl hget rfl (by omega) ?_; rw [hee]; conv => whnf) | fail)
    exact ⟨(k + 1, _), ⟨rfl, rfl, rfl, rfl, rfl, vint (by push_cast; omega), trivial⟩, ⟨by dsimp only; omega, hB, hL⟩, (by first | omega | (dsimp only; omega))⟩
end Go.Proofs.YtcjnaljdbbjojaaGreatDoor
