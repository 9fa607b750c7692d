/- Plan: slices.SortFunc of the free ones. Nothing is claimed here. -/
import Derived.Test.YthifnfoppamkiaaIp
namespace Go.Proofs.Ythifnfoppamkiaa
open Go.RowKit Go.Sort
set_option linter.unusedVariables false
set_option linter.unusedSimpArgs false
set_option maxRecDepth 100000

theorem Fn.of_calls {P : Program} {f : FuncId} {fn : Func} {args : Array Value} {w : World} {K : Value → World → Prop} (h1 : P.funcs[f]? = some fn) (h2 : (fn.name == "runtime.NumGoroutine") = false) (h3 : fn.body.isNone = false) (h : Calls P f args w fun e w' => ∃ v, e = .returned v ∧ K v w') : Fn P f args w K :=
  ⟨⟨fn, h1, h2, h3⟩, h⟩
def enc64 (i : Fin 64) : Value := .int .i64 (i.val : Int)
theorem fins {xs : List Int} (h : ∀ x ∈ xs, 0 ≤ x ∧ x < 64) : ∃ ds : List (Fin 64), ds.map (fun i => (i.val : Int)) = xs := by
  induction xs with
  | nil => exact ⟨[], rfl⟩
  | cons x xs ih =>
    obtain ⟨ds, hd⟩ := ih fun y hy => h y (List.mem_cons_of_mem _ hy)
    have hx := h x (List.mem_cons_self ..)
    refine ⟨⟨x.toNat, by omega⟩ :: ds, ?_⟩
    simp only [List.map_cons, hd, List.cons.injEq, and_true]
    omega
instance (ld : Int → Nat) (x y : Int) : Decidable (lt2 ld x y) := by unfold lt2; infer_instance
theorem lt2_tot {ld : Int → Nat} {x y : Int} (h1 : ¬ lt2 ld x y) (h2 : ¬ lt2 ld y x) : x = y := by unfold lt2 at *; omega
theorem lt2_trans {ld : Int → Nat} {x y z : Int} (h1 : lt2 ld x y) (h2 : lt2 ld y z) : lt2 ld x z := by unfold lt2 at *; omega
theorem lt2_ntrans {ld : Int → Nat} {x y z : Int} (h1 : ¬ lt2 ld x y) (h2 : ¬ lt2 ld y z) : ¬ lt2 ld x z := by unfold lt2 at *; omega
def cf64 (ld : Int → Nat) (x y : Fin 64) : Int := cfS ld (x.val : Int) (y.val : Int)
theorem lt64 (ld : Int → Nat) (x y : Fin 64) : ltOf (cf64 ld) x y = decide (lt2 ld (x.val : Int) (y.val : Int)) := by
  unfold ltOf cf64
  exact decide_eq_decide.2 (cfS_lt ld _ _)
theorem swo64 (ld : Int → Nat) : SWO (ltOf (cf64 ld)) where
  irrefl x := by rw [lt64]; simp [lt2]
  trans x y z h1 h2 := by rw [lt64] at *; simp only [decide_eq_true_eq] at *; exact lt2_trans h1 h2
  ntrans x y z h1 h2 := by rw [lt64] at *; simp only [decide_eq_false_iff_not] at *; exact lt2_ntrans h1 h2
theorem put_other (w : World) (g : Nat) (d : Array (Fin 64)) (m : Nat) (os : Array Obj) {b : Nat} (hb : b ≠ g) (h : b < w.heap.size) : (sortWorld enc64 w g 0 m d os).heap[b]? = w.heap[b]? := by
  unfold sortWorld
  rw [heap_grow_old _ _ (by unfold putRow mapBlock; simpa [Sort.ahead] using h)]
  unfold putRow mapBlock Sort.ahead
  simp only [Array.getElem?_modify]
  rw [if_neg (Ne.symm hb)]
theorem put_same (w : World) (g : Nat) (d : Array (Fin 64)) (m : Nat) (os : Array Obj) {cur : Array Value} {e : TypeId} (h : w.heap[g]? = some (.cells cur e (0, 0))) : (sortWorld enc64 w g 0 m d os).heap[g]? = some (.cells (putCells enc64 0 d cur) e (0, 0)) := by
  have hl : g < w.heap.size := (Array.getElem?_eq_some_iff.1 h).1
  unfold sortWorld
  rw [heap_grow_old _ _ (by unfold putRow mapBlock; simpa [Sort.ahead] using hl)]
  unfold putRow mapBlock Sort.ahead
  simp only [Array.getElem?_modify]
  rw [if_pos trivial, h]; rfl
theorem put_take (d : Array (Fin 64)) (cur : Array Value) (h : d.size ≤ cur.size) : (putCells enc64 0 d cur).toList.take d.size = d.toList.map enc64 := by
  apply List.ext_getElem?
  intro k
  rw [List.getElem?_take]
  unfold putCells
  by_cases hk : k < d.size
  · rw [if_pos hk]
    have hc : k < cur.size := by omega
    simp [hc, hk, getElem!_pos d k hk]
  · rw [if_neg hk]
    simp [hk]
set_option maxHeartbeats 4000000 in
theorem sort_fn (base g cap : Nat) (xs : List Int) (hx : ∀ x ∈ xs, 0 ≤ x ∧ x < 64) (bx bw : Nat) (vs lv sv : Value) (ld : Int → Nat) (c : PC) (w0 : World)
    (hrow : w0.ownsRow base 3 1 (.slice (some ⟨g, 0, none⟩) xs.length cap) xs.length (numC xs)) (hS : CapS bx bw vs lv sv ld c w0) (h1 : bx ≠ g) (h2 : bw ≠ g) (hn : xs.length ≤ 64) :
    Fn Try.prog 44 #[.slice (some ⟨g, 0, none⟩) xs.length cap, .func (.func 45) #[] #[.pointer (some ⟨bx, 0, none⟩)]] w0 fun r w' =>
      r = .tuple #[] ∧ ∃ ys : List Int, ys.Perm xs ∧ ys.Pairwise (fun x y => ¬ lt2 ld y x) ∧ w'.ownsRow base 3 1 (.slice (some ⟨g, 0, none⟩) xs.length cap) xs.length (numC ys) ∧ w0.grownBy w' (some g) := by
  obtain ⟨ds, hds⟩ := fins hx
  have hnum : numC xs = ds.map enc64 := by rw [← hds]; simp [numC, enc64, Function.comp_def]
  have hlen : xs.length = ds.length := by rw [← hds]; simp
  rcases hrow.2 with ⟨e, _⟩ | ⟨g', cap', cur, e, hbg, hh, hc1, hc2, hc3, hc4⟩
  · cases e
  injection e with e1 e2 e3
  injection e1 with e1
  injection e1 with e1
  subst e1; subst e3
  have hlt : g < w0.heap.size := (Array.getElem?_eq_some_iff.1 hh).1
  rw [Nat.mul_one] at hc3 hc4
  have hcell : ∀ j, j < ds.length → cur[j]? = some (enc64 ds.toArray[j]!) := fun j hj => by
    have := congrArg (fun l => l[j]?) hc4
    simp only [List.getElem?_take, hnum, List.getElem?_map] at this
    rw [if_pos (by omega)] at this
    simpa [hj] using this
  have hH : Holds enc64 w0 g 0 ds.toArray := by
    intro j hj
    rw [List.size_toArray] at hj
    constructor
    · rw [Nat.zero_add]
      simp only [World.cell?, hh]
      exact hcell j hj
    · have hb : Blk w0 g cur.toList 3 := hh
      exact hb.nofz _
  have hcmp : CmpLays1 Try.prog 45 #[.pointer (some ⟨bx, 0, none⟩)] enc64 (cf64 ld) g 0 ds.toArray.size w0 := by
    intro m os dk hs x y
    have hS' : CapS bx bw vs lv sv ld c (sortWorld enc64 w0 g 0 m dk os) := hS.keep (put_other _ _ _ _ _ h1 hS.box.lt) (put_other _ _ _ _ _ h2 hS.wd.lt)
    exact (closure_fn bx bw vs lv sv ld c (x.val : Int) (y.val : Int) (by omega) (by omega) (by omega) (by omega) _ hS').calls.mono fun e w' ⟨v, he, hv, q, os', hw⟩ => ⟨by rw [he, hv]; rfl, q, os', hw⟩
  have hcall := Any.slices_SortFunc_total Try.sortL enc64 (fun _ => rfl) (cf64 ld) (swo64 ld) 45 #[.pointer (some ⟨bx, 0, none⟩)] g 0 cap ds.toArray w0
    (enters_of Try.func45 (by kernel_rfl) rfl) hcmp hH hlt (by rw [List.size_toArray]; omega) (fun x y e1 e2 => by
      rw [lt64, decide_eq_false_iff_not] at e1 e2
      have := lt2_tot e1 e2
      exact Fin.ext (by omega))
  rw [List.size_toArray, ← hlen] at hcall
  refine Fn.of_calls Try.func44 (by decide +kernel) rfl (hcall.mono fun e w' ⟨he, n, os, hw⟩ => ⟨_, he, rfl, ?_⟩)
  have hle : (fun x y : Fin 64 => !ltOf (cf64 ld) y x) = fun x y => decide (¬ lt2 ld (y.val : Int) (x.val : Int)) := by
    funext x y; rw [lt64]; simp
  rw [List.toList_toArray, hle] at hw
  generalize hms : (ds.mergeSort fun x y => decide (¬ lt2 ld (y.val : Int) (x.val : Int))) = ms at hw
  have hpm : ms.Perm ds := by rw [← hms]; exact List.mergeSort_perm _ _
  have hps : ms.Pairwise fun x y => ¬ lt2 ld (y.val : Int) (x.val : Int) := by
    rw [← hms]
    have := List.pairwise_mergeSort (le := fun x y : Fin 64 => decide (¬ lt2 ld (y.val : Int) (x.val : Int))) (fun a b c h1 h2 => by
      simp only [decide_eq_true_eq] at *
      exact lt2_ntrans h2 h1) (fun a b => by
      simp only [Bool.or_eq_true, decide_eq_true_eq]
      by_cases e : lt2 ld (b.val : Int) (a.val : Int)
      · right; intro e'; have := lt2_trans e e'; simp [lt2] at this
      · exact .inl e) ds
    exact this.imp fun {a b} h => by simpa using h
  have hml : ms.length = xs.length := by rw [hpm.length_eq, hlen]
  refine ⟨ms.map fun i => (i.val : Int), by rw [← hds]; exact hpm.map _, List.pairwise_map.2 hps, ⟨by rw [numC_len, List.length_map]; omega, .inr ⟨g, cap, _, rfl, hbg, by rw [hw]; exact put_same w0 g _ n os hh, hc1, hc2, by simp [putCells, hc3], ?_⟩⟩, ?_⟩
  · have := put_take ms.toArray cur (by rw [List.size_toArray]; omega)
    rw [List.size_toArray, hml] at this
    rw [Nat.mul_one, this]
    simp [numC, enc64, Function.comp_def]
  · subst hw
    exact ⟨rfl, rfl, rfl, by simp [sortWorld, putRow, mapBlock, Sort.ahead], fun k hk hne => put_other _ _ _ _ _ (fun e => hne (by rw [e])) hk⟩
end Go.Proofs.Ythifnfoppamkiaa
