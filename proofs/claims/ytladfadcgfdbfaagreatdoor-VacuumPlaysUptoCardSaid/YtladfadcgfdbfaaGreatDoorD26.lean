/- vacuum: slices.SortFunc of places. Needles that come in. Nothing is claimed here. -/
import Derived.Test.YtladfadcgfdbfaaGreatDoorD25
import Derived.Test.YtladfadcgfdbfaaGreatDoorSrk
import Derived.Test.YtladfadcgfdbfaaGreatDoorD15
import Derived.Test.YtladfadcgfdbfaaGreatDoorD03
import Derived.WideShapes
namespace Go.Proofs.YtladfadcgfdbfaaGreatDoor
open Go.RowKit Go.Sort
set_option linter.unusedVariables false
set_option linter.unusedSimpArgs false
set_option maxRecDepth 100000
def numC (l : List Int) : List Value := l.map (.int .i64)
theorem numC_len (l : List Int) : (numC l).length = l.length := by simp [numC]
theorem numC_get {l : List Int} {k : Nat} {x : Int} (h : l[k]? = some x) : (numC l)[k]? = some (.int .i64 x) := by simp [numC, h]
def cmpI (x y : Int) : Int := if x < y then -1 else if y < x then 1 else 0
theorem isNaN_fn (x : Int) (w0 : World) : Fn Tryz.prog 76 #[.int .i64 x] w0 fun r w' => r = .bool false ∧ w' = w0 := by
  have hL := Sep.start Tryz.prog w0
  have hB := Nat.le_refl w0.heap.size
  refine Fn.mk Tryz.func76 rfl (by kernel_rfl) Tryz.ntmps76 rfl (by rw [Tryz.results76]) ?_
  repeat (first | (refine RunH ?_; intro w hL hB; try clear w) | (refine Both.mk ?_ ?_ <;> conv => whnf) | fail)
  exact ⟨by simp, rfl⟩
theorem compare_fn (x y : Int) (w0 : World) : Fn Tryz.prog 37 #[.int .i64 x, .int .i64 y] w0 fun r w' => r = .int .i64 (cmpI x y) ∧ w' = w0 := by
  have hL := Sep.start Tryz.prog w0
  have hB := Nat.le_refl w0.heap.size
  unfold cmpI
  refine Fn.mk Tryz.func37 rfl (by kernel_rfl) Tryz.ntmps37 rfl (by rw [Tryz.results37]) ?_
  by_cases h1 : x < y
  · rw [if_pos h1]
    repeat (first | (refine RunH ?_; intro w hL hB; try clear w) | (refine Both.mk ?_ ?_ <;> conv => whnf) | (refine (isNaN_fn _ _).mono fun r w1 hr => ?_; obtain ⟨hr, hw⟩ := hr; subst hr; subst hw; conv => whnf) | fail)
    exact ⟨rfl, rfl⟩
  · rw [if_neg h1]
    by_cases h2 : y < x
    · rw [if_pos h2]
      repeat (first | (refine RunH ?_; intro w hL hB; try clear w) | (refine Both.mk ?_ ?_ <;> conv => whnf) | (refine (isNaN_fn _ _).mono fun r w1 hr => ?_; obtain ⟨hr, hw⟩ := hr; subst hr; subst hw; conv => whnf) | fail)
      exact ⟨rfl, rfl⟩
    · rw [if_neg h2]
      repeat (first | (refine RunH ?_; intro w hL hB; try clear w) | (refine Both.mk ?_ ?_ <;> conv => whnf) | (refine (isNaN_fn _ _).mono fun r w1 hr => ?_; obtain ⟨hr, hw⟩ := hr; subst hr; subst hw; conv => whnf) | fail)
      exact ⟨rfl, rfl⟩
def orI : List Int → Int
  | [] => 0
  | x :: l => if x = 0 then orI l else x
theorem orI_drop {ns : List Int} {i : Nat} {x : Int} (h : ns[i]? = some x) : orI (ns.drop i) = if x = 0 then orI (ns.drop (i + 1)) else x := by
  obtain ⟨hi, rfl⟩ := List.getElem?_eq_some_iff.1 h
  rw [List.drop_eq_getElem_cons hi]; rfl
theorem or_fn (v : Value) (ns : List Int) (w0 : World) (h : SlE w0 v (numC ns)) : Fn Tryz.prog 36 #[v] w0 fun r w' => r = .int .i64 (orI ns) ∧ w' = w0 := by
  obtain ⟨va, vc, rfl⟩ := h.shape
  have hle := h.le
  rw [numC_len] at h hle ⊢
  have hL := Sep.start Tryz.prog w0
  have hB := Nat.le_refl w0.heap.size
  refine Fn.mk Tryz.func36 rfl (by kernel_rfl) Tryz.ntmps36 rfl (by rw [Tryz.results36]) ?_
  repeat (first | (refine RunH ?_; intro w hL hB; try clear w) | (refine Both.mk ?_ ?_ <;> conv => whnf) | fail)
  refine V.loop (α := Nat) (fun z => [(3, .int .i64 0), (6, .slice va ns.length vc), (7, .int .i64 ns.length), (8, .int .i64 z)])
    (fun z w' => z ≤ ns.length ∧ w' = w0 ∧ orI (ns.drop z) = orI ns) (fun z => ns.length - z) 0 ⟨rfl, rfl, rfl, rfl, trivial⟩ ⟨by simp, rfl, by simp⟩ ?_
  rintro i w ⟨hi, rfl, hn⟩
  dsimp only at *
  repeat (first | (refine RunH ?_; intro w hL hB; try clear w) | (refine Both.mk ?_ ?_ <;> conv => whnf) | fail)
  refine Br.dec (fun hlt => ?_) (fun hlt => ?_)
  · have hie : i < ns.length := by omega
    obtain ⟨b, o, rfl, hr⟩ := h.sl.toN.addr (by omega)
    have hge : ns[i]? = some ns[i] := List.getElem?_eq_getElem hie
    generalize ns[i] = x at hge
    rw [orI_drop hge] at hn
    repeat (first | (refine RunH ?_; intro w hL hB; try clear w) | (refine Both.mk ?_ ?_ <;> conv => whnf) | fail)
    intro o' ho'
    conv => whnf
    refine Ld.row1 ttOk hr rfl rfl (k := i) (numC_get hge) (by omega) ?_
    conv => whnf
    repeat (first | (refine RunH ?_; intro w hL hB; try clear w) | (refine Both.mk ?_ ?_ <;> conv => whnf) | fail)
    refine Br.dec (fun he => ?_) (fun he => ?_)
    · rw [if_pos he] at hn
      repeat (first | (refine RunH ?_; intro w hL hB; try clear w) | (refine Both.mk ?_ ?_ <;> conv => whnf) | fail)
      exact ⟨i + 1, ⟨rfl, rfl, rfl, rfl, trivial⟩, ⟨hie, rfl, hn⟩, (by first | omega | (dsimp only; omega))⟩
    · rw [if_neg he] at hn
      repeat (first | (refine RunH ?_; intro w hL hB; try clear w) | (refine Both.mk ?_ ?_ <;> conv => whnf) | fail)
      exact ⟨by rw [hn], rfl⟩
  · obtain rfl : i = ns.length := by omega
    rw [List.drop_length] at hn
    repeat (first | (refine RunH ?_; intro w hL hB; try clear w) | (refine Both.mk ?_ ?_ <;> conv => whnf) | fail)
    exact ⟨by rw [← hn]; rfl, rfl⟩
theorem isNaNU_fn (x : Int) (w0 : World) : Fn Tryz.prog 77 #[.int .u64 x] w0 fun r w' => r = .bool false ∧ w' = w0 := by
  have hL := Sep.start Tryz.prog w0
  have hB := Nat.le_refl w0.heap.size
  refine Fn.mk Tryz.func77 rfl (by kernel_rfl) Tryz.ntmps77 rfl (by rw [Tryz.results77]) ?_
  repeat (first | (refine RunH ?_; intro w hL hB; try clear w) | (refine Both.mk ?_ ?_ <;> conv => whnf) | fail)
  exact ⟨by simp, rfl⟩
theorem compareU_fn (x y : Int) (w0 : World) : Fn Tryz.prog 38 #[.int .u64 x, .int .u64 y] w0 fun r w' => r = .int .i64 (cmpI x y) ∧ w' = w0 := by
  have hL := Sep.start Tryz.prog w0
  have hB := Nat.le_refl w0.heap.size
  unfold cmpI
  refine Fn.mk Tryz.func38 rfl (by kernel_rfl) Tryz.ntmps38 rfl (by rw [Tryz.results38]) ?_
  by_cases h1 : x < y
  · rw [if_pos h1]
    repeat (first | (refine RunH ?_; intro w hL hB; try clear w) | (refine Both.mk ?_ ?_ <;> conv => whnf) | (refine (isNaNU_fn _ _).mono fun r w1 hr => ?_; obtain ⟨hr, hw⟩ := hr; subst hr; subst hw; conv => whnf) | fail)
    exact ⟨rfl, rfl⟩
  · rw [if_neg h1]
    by_cases h2 : y < x
    · rw [if_pos h2]
      repeat (first | (refine RunH ?_; intro w hL hB; try clear w) | (refine Both.mk ?_ ?_ <;> conv => whnf) | (refine (isNaNU_fn _ _).mono fun r w1 hr => ?_; obtain ⟨hr, hw⟩ := hr; subst hr; subst hw; conv => whnf) | fail)
      exact ⟨rfl, rfl⟩
    · rw [if_neg h2]
      repeat (first | (refine RunH ?_; intro w hL hB; try clear w) | (refine Both.mk ?_ ?_ <;> conv => whnf) | (refine (isNaNU_fn _ _).mono fun r w1 hr => ?_; obtain ⟨hr, hw⟩ := hr; subst hr; subst hw; conv => whnf) | fail)
      exact ⟨rfl, rfl⟩
def cfP (x y : Pc) : Int := orI [cmpI x.at_ y.at_, cmpI x.key y.key]
instance : Inhabited Pc := ⟨⟨0, 0, 0, 0, false⟩⟩
def ltP (x y : Pc) : Prop := x.at_ < y.at_ ∨ (x.at_ = y.at_ ∧ x.key < y.key)
instance (x y : Pc) : Decidable (ltP x y) := by unfold ltP; infer_instance
theorem cfP_lt (x y : Pc) : cfP x y < 0 ↔ ltP x y := by
  unfold cfP ltP cmpI orI
  simp only [orI]
  repeat' split
  all_goals omega
theorem ltP_eq (x y : Pc) : ltOf cfP x y = decide (ltP x y) := by
  unfold ltOf
  exact decide_eq_decide.2 (cfP_lt x y)
theorem swoP : SWO (ltOf cfP) where
  irrefl x := by rw [ltP_eq]; simp [ltP]
  trans x y z h1 h2 := by
    rw [ltP_eq, decide_eq_true_eq] at h1 h2 ⊢
    unfold ltP at *
    omega
  ntrans x y z h1 h2 := by
    rw [ltP_eq, decide_eq_false_iff_not] at h1 h2 ⊢
    unfold ltP at *
    omega
theorem grow_keep (w : World) (os : Array Obj) (q : Nat) {b : Nat} (h : b < w.heap.size) : (Go.Sort.grow (w.drewN q) os).heap[b]? = w.heap[b]? := Go.Sort.heap_grow_old _ _ (by exact h)
theorem Nw.eq {w : World} {o : Obj} {K : Nat → World → Prop} (h : ∀ b w', b = w.heap.size → w' = w.alloc o → K b w') : Nw w o K := Nw.mk (h _ _ rfl rfl)
/-- the worlds a comparison goes through -/
def CmpW (w0 : World) (bx bz : Nat) (p q : Pc) (x : World) : Prop := (∃ n os, x = Go.Sort.grow (w0.drewN n) os) ∧ Blk x bx (pcC p) 87 ∧ Blk x bz (pcC q) 87
set_option maxHeartbeats 8000000 in
theorem less_fn (p q : Pc) (w0 : World) :
    Fn Tryz.prog 35 #[.agg (pcC p).toArray, .agg (pcC q).toArray] w0 fun r w' => r = .int .i64 (cfP p q) ∧ ∃ n os, w' = Go.Sort.grow (w0.drewN n) os := by
  have hpv : Value.agg (pcC p).toArray = .agg #[.int .u64 (p.key : Int), .int .i64 (p.at_ : Int), .int .i64 (p.n : Int), .int .u32 (p.cook : Int), .bool p.dead] := rfl
  have hqv : Value.agg (pcC q).toArray = .agg #[.int .u64 (q.key : Int), .int .i64 (q.at_ : Int), .int .i64 (q.n : Int), .int .u32 (q.cook : Int), .bool q.dead] := rfl
  rw [hpv, hqv]
  refine Fn.mk Tryz.func35 rfl (by kernel_rfl) Tryz.ntmps35 rfl (by rw [Tryz.results35]) ?_
  refine RunR ?_
  refine Nw.eq fun bx w1 hbx hw1 => ?_
  conv => whnf
  refine RunR ?_
  refine Nw.eq fun bz wa hbz hwa => ?_
  have hg : wa = Go.Sort.grow w0 #[.cells (pcC p).toArray 87, .cells (pcC q).toArray 87] := by rw [hwa, hw1, Go.Sort.alloc_eq_grow, Go.Sort.alloc_eq_grow]; exact Go.Sort.grow_grow _ _ _
  have hb2 : Blk wa bz (pcC q) 87 := by rw [hwa, hbz]; exact World.alloc_heap_new _ _
  have hb1 : Blk wa bx (pcC p) 87 := by
    have h1 : Blk w1 bx (pcC p) 87 := by rw [hw1, hbx]; exact World.alloc_heap_new _ _
    rw [hwa]
    exact (Below.heap_alloc _ _ _ h1.lt).trans h1
  clear hbx hbz hwa hw1
  have hL := Sep.start Tryz.prog wa
  have hB := Nat.le_refl wa.heap.size
  have hcl : ∀ {x : World}, (∃ n os, x = Go.Sort.grow (wa.drewN n) os) → CmpW w0 bx bz p q x := fun {x} ⟨n, os, hx⟩ => by
    subst hx
    exact ⟨⟨n, _, by rw [hg]; exact Go.Sort.grow_grow (w0.drewN n) _ _⟩, (grow_keep _ _ _ hb1.lt).trans hb1, (grow_keep _ _ _ hb2.lt).trans hb2⟩
  conv => whnf
  refine RunR ?_
  have hG0 : CmpW w0 bx bz p q wa.drew := hcl ⟨1, #[], by rw [Go.Sort.grow_empty]; rfl⟩
  refine V.tree ttOk (CmpW w0 bx bz p q) (.q 0 (.q 1 (.q 2 (.q 3 (.q 5 (.q 6 (.q 7 (.q 8 (.alt 4 (.alt 9 (.alt 10 (.alt 11 (.q 12 .nil) .stop) .stop) .stop) .stop))))))))) mixed (by decide +kernel) hG0 ?_
  conv => whnf
  repeat' (first | (refine RunH ?_; intro w hL hB; try clear w) | (refine Br.dec (fun hbr => ?_) (fun hbr => ?_) <;> conv => whnf) | (refine Br.mk (fun hbr => ?_) (fun hbr => ?_) <;> conv => whnf) | (refine Both.mk ?_ ?_ <;> conv => whnf) | (refine Lq.of_class (fun x hx => Ld.blk ttOk rfl rfl hx.2.1 rfl rfl) ?_; conv => whnf) | (refine Lq.of_class (fun x hx => Ld.blk ttOk rfl rfl hx.2.2 rfl rfl) ?_; conv => whnf) | (refine (compare_fn _ _ _).mono fun r w1 hr => ?_; obtain ⟨hr, hw⟩ := hr; subst hr; subst hw; conv => whnf) | (refine (compareU_fn _ _ _).mono fun r w1 hr => ?_; obtain ⟨hr, hw⟩ := hr; subst hr; subst hw; conv => whnf) | (refine And.intro hG0 ?_; conv => whnf) | fail)
  all_goals
    refine Rv.build (vs := [.int .i64 (cmpI p.at_ q.at_), .int .i64 (cmpI p.key q.key)]) ttOk tl145 tl3 rfl rfl (by intro u hu; simp only [List.mem_cons, List.not_mem_nil, or_false] at hu; rcases hu with rfl | rfl <;> rfl) (by decide) (by decide) fun w9 ho9 hg9 he9 => ?_
    have hG9 : CmpW w0 bx bz p q w9 := hcl ⟨1, #[.cells (numC [cmpI p.at_ q.at_, cmpI p.key q.key]).toArray 3], by rw [he9, Go.Sort.alloc_eq_grow]; rfl⟩
    conv => whnf
    repeat' (first | (refine RunH ?_; intro w hL hB; try clear w) | (refine Br.dec (fun hbr => ?_) (fun hbr => ?_) <;> conv => whnf) | (refine Br.mk (fun hbr => ?_) (fun hbr => ?_) <;> conv => whnf) | (refine Both.mk ?_ ?_ <;> conv => whnf) | (refine And.intro hG9 ?_; conv => whnf) | fail)
    refine (or_fn _ [cmpI p.at_ q.at_, cmpI p.key q.key] _ (SlN.of_own ho9).to1.e).mono fun r w hr => ?_
    obtain ⟨rfl, rfl⟩ := hr
    conv => whnf
    repeat' (first | (refine RunH ?_; intro w hL hB; try clear w) | (refine Br.dec (fun hbr => ?_) (fun hbr => ?_) <;> conv => whnf) | (refine Br.mk (fun hbr => ?_) (fun hbr => ?_) <;> conv => whnf) | (refine Both.mk ?_ ?_ <;> conv => whnf) | (refine And.intro hG9 ?_; conv => whnf) | fail)
    exact ⟨rfl, hG9.1⟩
theorem flatK_list (ps : List Pc) : (flatK pcC 5 ps.toArray).toList = ps.flatMap pcC := by
  apply List.ext_getElem?
  intro t
  have hl : (ps.flatMap pcC).length = ps.length * 5 := by rw [pcC_flat]; omega
  by_cases ht : t < ps.length * 5
  · have h1 : (flatK pcC 5 ps.toArray).size = ps.length * 5 := by simp
    have h5 : t / 5 < ps.length := by omega
    have hg := get_flatK pcC 5 ps.toArray t (by simpa using ht)
    rw [getElem!_pos (flatK pcC 5 ps.toArray) t (by rw [h1]; exact ht)] at hg
    have hge : ps[t / 5]? = some ps[t / 5] := List.getElem?_eq_getElem h5
    rw [List.getElem?_eq_getElem (by rw [Array.length_toList, h1]; exact ht), Array.getElem_toList, hg]
    have hfl := flat_get pcC_len (ss := ps) (k := t / 5) (t % 5) hge (by omega)
    rw [show t / 5 * 5 + t % 5 = t by omega] at hfl
    rw [hfl, show ps.toArray[t / 5]! = ps[t / 5] from by simp [h5]]
    have hm : t % 5 < (pcC ps[t / 5]).length := by rw [pcC_len]; omega
    rw [List.getElem?_eq_getElem hm, getElem!_pos (pcC ps[t / 5]) (t % 5) hm]
  · rw [List.getElem?_eq_none (by simp; omega), List.getElem?_eq_none (by omega)]
theorem putV_other (w : World) (g : Nat) (d : Array Value) (m : Nat) (os : Array Obj) {b : Nat} (hb : b ≠ g) (h : b < w.heap.size) : (grow (putRow id (Sort.ahead w m) g 0 d) os).heap[b]? = w.heap[b]? := by
  rw [heap_grow_old _ _ (by unfold putRow mapBlock; simpa [Sort.ahead] using h)]
  unfold putRow mapBlock Sort.ahead
  simp only [Array.getElem?_modify]
  rw [if_neg (Ne.symm hb)]
theorem putV_same (w : World) (g : Nat) (d : Array Value) (m : Nat) (os : Array Obj) {cur : Array Value} {e : TypeId} (h : w.heap[g]? = some (.cells cur e (0, 0))) : (grow (putRow id (Sort.ahead w m) g 0 d) os).heap[g]? = some (.cells (putCells id 0 d cur) e (0, 0)) := by
  have hl : g < w.heap.size := (Array.getElem?_eq_some_iff.1 h).1
  rw [heap_grow_old _ _ (by unfold putRow mapBlock; simpa [Sort.ahead] using hl)]
  unfold putRow mapBlock Sort.ahead
  simp only [Array.getElem?_modify]
  rw [if_pos trivial, h]; rfl
theorem putV_take (d : Array Value) (cur : Array Value) (h : d.size ≤ cur.size) : (putCells id 0 d cur).toList.take d.size = d.toList := by
  apply List.ext_getElem?
  intro k
  rw [List.getElem?_take]
  unfold putCells
  by_cases hk : k < d.size
  · rw [if_pos hk]
    have hc : k < cur.size := by omega
    simp [hc, hk, getElem!_pos d k hk]
  · rw [if_neg hk]
    simp [hk]
theorem permIn_list {d d' : Array Pc} (h : PermIn 0 d.size d d') : d'.toList.Perm d.toList := by
  obtain ⟨h1, _, h3⟩ := h
  have e1 : d.extract 0 d.size = d := by simp
  have e2 : d'.extract 0 d.size = d' := by rw [← h1]; simp
  rwa [e1, e2] at h3
theorem sortedIn_list {d : Array Pc} (h : SortedIn (ltOf cfP) 0 d.size d) : d.toList.Pairwise fun x y => ¬ ltP y x := by
  rw [List.pairwise_iff_getElem]
  intro i j hi hj hij
  rw [Array.length_toList] at hi hj
  have := h i j (Nat.zero_le _) hij hj
  rw [ltP_eq, decide_eq_false_iff_not, getElem!_pos d j hj, getElem!_pos d i hi] at this
  simpa using this
section
variable {B : Nat} {w0 w : World}
theorem sortP_nil (w : World) : Fn Tryz.prog 34 #[.slice none 0 0, .func (.func 35) #[] #[]] w fun r w' => w' = w ∧ True :=
  Fn.of_calls Tryz.func34 (by decide +kernel) rfl ((AnyF.slices_SortFunc_none Tryz.sortL none 0 _ w).mono fun e w' h => ⟨_, h.1, h.2, trivial⟩)
set_option maxHeartbeats 4000000 in
theorem sortP_fn (v : Value) (ps : List Pc) (F : List Res) (hn : ps.length ≤ 1000000) (hL : Sep Tryz.prog B w0 w (.row 87 5 v ps.length (ps.flatMap pcC) :: F)) (hB : B ≤ w.heap.size) :
    Fn Tryz.prog 34 #[v, .func (.func 35) #[] #[]] w fun r w' => ∃ ls : List Pc, ls.Perm ps ∧ ls.Pairwise (fun x y => ¬ ltP y x) ∧ B ≤ w'.heap.size ∧ Sep Tryz.prog B w0 w' (.row 87 5 v ps.length (ls.flatMap pcC) :: F) := by
  have hrow : w.ownsRow 0 87 5 v ps.length (ps.flatMap pcC) := hL.at (i := 0) rfl
  rcases hrow.2 with ⟨rfl, h0⟩ | ⟨g, cap, cur, rfl, hbg, hh, hc1, hc2, hc3, hc4⟩
  · obtain rfl : ps = [] := List.eq_nil_of_length_eq_zero h0
    exact (sortP_nil w).mono fun r w' ⟨h, _⟩ => ⟨[], .refl _, .nil, by rw [h]; exact hB, by rw [h]; exact hL⟩
  have hlt : g < w.heap.size := (Array.getElem?_eq_some_iff.1 hh).1
  have hfl : ∀ qs : List Pc, (flatK pcC 5 qs.toArray).size = qs.length * 5 := fun qs => by simp
  have hH : HoldsK pcC 5 w g 0 ps.toArray := by
    intro j hj
    rw [hfl] at hj
    have hjl : j < (ps.flatMap pcC).length := by rw [pcC_flat]; omega
    have hcj : cur[j]? = (ps.flatMap pcC)[j]? := by
      rw [← hc4, List.getElem?_take, if_pos hj, ← Array.getElem?_toList]
    constructor
    · rw [Nat.zero_add]
      simp only [World.cell?, hh]
      show cur[j]? = some ((flatK pcC 5 ps.toArray)[j]!)
      rw [hcj, ← flatK_list, Array.getElem?_toList, getElem!_pos _ _ (by rw [hfl]; exact hj)]
      exact Array.getElem?_eq_getElem _
    · have hb : Blk w g cur.toList 87 := hh
      exact hb.nofz _
  have hcmp : CmpLays Tryz.prog 35 #[] pcC 5 cfP g 0 ps.toArray.size w := fun m os dk hs x y =>
    (less_fn x y _).calls.mono fun e w' ⟨v, he, hv, q, os', hw⟩ => ⟨by rw [he, hv], q, os', hw⟩
  have hcall := AnyQ.slices_SortFunc Tryz.sortL 5 (fun w => Tryz.isAgg87 w) (fun w => Tryz.sizeOf87 w) pcC pcC_len (fun x u hu => by
      simp only [pcC, List.mem_cons, List.not_mem_nil, or_false] at hu
      rcases hu with rfl | rfl | rfl | rfl | rfl <;> rfl) cfP swoP 35 #[] g 0 cap ps.toArray w
    (enters_of Tryz.func35 (by kernel_rfl) rfl) hcmp hH hlt (by rw [List.size_toArray]; omega)
  rw [List.size_toArray] at hcall
  refine Fn.of_calls Tryz.func34 (by decide +kernel) rfl (hcall.mono fun e w' ⟨he, d', n, os, hp, hs, hw⟩ => ⟨_, he, d'.toList, ?_, ?_, ?_⟩)
  · have hp : PermIn 0 ps.toArray.size ps.toArray d' := by rw [List.size_toArray]; exact hp
    simpa using permIn_list hp
  · have h1 : d'.size = ps.length := by simpa using hp.1
    have hs : SortedIn (ltOf cfP) 0 ps.length d' := hs
    rw [← h1] at hs
    exact sortedIn_list hs
  have hml : d'.toList.length = ps.length := by simpa using hp.1
  have hw2 : w' = grow (putRow id (Sort.ahead w n) g 0 (flatK pcC 5 d')) os := hw
  have hdl : (flatK pcC 5 d').size = ps.length * 5 := by rw [size_flatK, show d'.size = ps.length from by simpa using hp.1]
  have hfd : (flatK pcC 5 d').toList = d'.toList.flatMap pcC := by have := flatK_list d'.toList; simpa using this
  have hg : w.grownBy w' (some g) := by
    rw [hw2]
    exact ⟨rfl, rfl, rfl, by simp [putRow, mapBlock, Sort.ahead], fun k hk hne => putV_other _ _ _ _ _ (fun e => hne (by rw [e])) hk⟩
  have hown : w'.ownsRow 0 87 5 (.slice (some ⟨g, 0, none⟩) ps.length cap) ps.length (d'.toList.flatMap pcC) := by
    refine ⟨by rw [pcC_flat, hml, Nat.mul_comm], .inr ⟨g, cap, _, rfl, hbg, by rw [hw2]; exact putV_same w g _ n os hh, hc1, hc2, by simp [putCells, hc3], ?_⟩⟩
    have := putV_take (flatK pcC 5 d') cur (by rw [hdl, hc3]; omega)
    rwa [hdl, hfd] at this
  have h2 := hL.step (i := 0) rfl hB (Turns.of_grown hg) (R' := .row 87 5 (.slice (some ⟨g, 0, none⟩) ps.length cap) ps.length (d'.toList.flatMap pcC)) hown (fun b hb => .inl hb) (by simp [Res.blocks, Value.ownBlock, rowB])
  exact ⟨Nat.le_trans hB hg.size, h2⟩
end
end Go.Proofs.YtladfadcgfdbfaaGreatDoor
namespace Go.Proofs.YtladfadcgfdbfaaGreatDoor
open Go.RowKit Go.WideShapes
set_option linter.unusedVariables false
set_option linter.unusedSimpArgs false
set_option maxRecDepth 100000
theorem wf_u64 {n : Int} (h : (Lit.int .u64 n).wf = true) : ∃ x : Nat, n = (x : Int) ∧ x < 18446744073709551616 := by
  simp only [Lit.wf, IntKind.min, IntKind.max, IntKind.bits, IntKind.signed, Bool.and_eq_true, decide_eq_true_eq] at h
  simp at h
  exact ⟨n.toNat, by omega, by omega⟩
theorem wf_u32 {n : Int} (h : (Lit.int .u32 n).wf = true) : ∃ x : Nat, n = (x : Int) ∧ x < 4294967296 := by
  simp only [Lit.wf, IntKind.min, IntKind.max, IntKind.bits, IntKind.signed, Bool.and_eq_true, decide_eq_true_eq] at h
  simp at h
  exact ⟨n.toNat, by omega, by omega⟩
/-- a needle that came in -/
structure InN where
  key : Nat
  cook : Nat
  dead : Bool
  v : Value
  d : List UInt8
def inC (n : InN) : List Value := ndC n.key n.cook n.dead n.v
structure OkN (w : World) (n : InN) : Prop where
  key : n.key < 18446744073709551616
  cook : n.cook < 4294967296
  sl : Sl w n.v (bv n.d)
  len : n.d.length ≤ 140737488355328
theorem four' {l : List Value} (h : l.length = 4) : ∃ a b c d, l = [a, b, c, d] := by
  match l, h with
  | [a, b, c, d], _ => exact ⟨a, b, c, d, rfl⟩
theorem needle_open {w : World} {l : List Value} {d : Nat} (h : opz Tryz.prog TT 140737488355328 w (d + 3) 42 l) : ∃ n : InN, l = inC n ∧ OkN w n := by
  obtain ⟨hlen, h1, h2, h3, h4, _⟩ := h
  obtain ⟨a, b, c, e, rfl⟩ := four' hlen
  obtain ⟨n1, e1, w1⟩ := h1
  obtain ⟨n2, e2, w2⟩ := h2
  obtain ⟨n3, e3⟩ := h3
  obtain ⟨l4, hl4, w4⟩ := bytes_open (d := d) h4
  have e1' : [a] = [.int .u64 n1] := e1
  have e2' : [b] = [.int .u32 n2] := e2
  have e3' : [c] = [.bool n3] := e3
  injection e1' with e1'
  injection e2' with e2'
  injection e3' with e3'
  subst e1'; subst e2'; subst e3'
  obtain ⟨x1, rfl, y1⟩ := wf_u64 w1
  obtain ⟨x2, rfl, y2⟩ := wf_u32 w2
  exact ⟨⟨x1, x2, n3, e, l4⟩, rfl, y1, y2, hl4, w4⟩
end Go.Proofs.YtladfadcgfdbfaaGreatDoor
