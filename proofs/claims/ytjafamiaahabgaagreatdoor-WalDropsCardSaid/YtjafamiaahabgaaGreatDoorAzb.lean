/- wal: the law WalDrops. Nothing is claimed here. -/
import Derived.Test.YtjafamiaahabgaaGreatDoorAz
namespace Go.Proofs.YtjafamiaahabgaaGreatDoor
open Go.RowKit Go.Lib
set_option linter.unusedVariables false
set_option linter.unusedSimpArgs false
set_option maxRecDepth 100000

/-- two logs on one disk -/
structure Lg2 (B : Nat) (w0 w : World) (d l m : Nat) (pre : ByteArray) (room : Nat) (S : List Fl) (G1 : List Wg) (a1 : Nat) (G2 : List Wg) (a2 : Nat) (F : List Res) : Prop where
  of : ∃ n sg, sg.map Sg.wg = G2 ∧ n.ok (ptrs sg) ∧ LgS B w0 w d l pre room S G1 a1 (logR m d pre n sg a2 ++ F)
section
variable {B : Nat} {w0 w : World} {d l m room : Nat} {pre : ByteArray} {S : List Fl} {G1 G2 : List Wg} {a1 a2 : Nat} {F : List Res}
theorem Lg2.swp (h : Lg2 B w0 w d l m pre room S G1 a1 G2 a2 F) : Lg2 B w0 w d m l pre room S G2 a2 G1 a1 F := by
  obtain ⟨n, sg, h1, h2, hG⟩ := h.of
  obtain ⟨n1, sg1, k1, k2, hD⟩ := hG.of
  exact ⟨n1, sg1, k1, k2, ⟨n, sg, h1, h2, hD.perm (List.perm_append_comm_assoc _ _ _)⟩⟩
theorem Lg2.opn (h : Lg2 B w0 w d l m pre room S G1 a1 G2 a2 F) :
    ∃ X, Sep Tryz.prog B w0 w (F ++ X) ∧ B ≤ w.heap.size ∧ ∀ {w' : World} {F' : List Res}, Sep Tryz.prog B w0 w' (F' ++ X) → B ≤ w'.heap.size → Lg2 B w0 w' d l m pre room S G1 a1 G2 a2 F' := by
  obtain ⟨n, sg, h1, h2, hG⟩ := h.of
  obtain ⟨X, hL, hB, back⟩ := hG.opn
  have hp : ∀ F' : List Res, ((logR m d pre n sg a2 ++ F') ++ X).Perm (F' ++ (logR m d pre n sg a2 ++ X)) := fun F' => by
    rw [List.append_assoc]; exact List.perm_append_comm_assoc _ _ _
  exact ⟨_, hL.perm (hp F), hB, fun hL hB => ⟨n, sg, h1, h2, back (hL.perm (hp _).symm) hB⟩⟩
theorem get2_fn {n : Nat} (i : Nat) (hc : ChG n G1 a1) (ha : a1 ≤ 2101) (hw : wtW (flatG G1) ≤ 20010) (hi : n ≤ i) {x : List UInt8} (hx : (flatG G1)[i - n]? = some x) (hG : Lg2 B w0 w d l m pre room S G1 a1 G2 a2 F) :
    Fn Tryz.prog 13 #[.pointer (some ⟨l, 0, none⟩), .int .i64 (i : Int)] w fun r w' => ∃ u, r = .tuple #[u, .int .i64 0] ∧ Lg2 B w0 w' d l m pre room S G1 a1 G2 a2 (.row 5 1 u x.length (bv x) :: F) := by
  obtain ⟨n, sg, h1, h2, hG⟩ := hG.of
  refine (chGet_fn i hc ha hw hi hx hG).mono fun r w ⟨u, hr, hG⟩ => ⟨u, hr, ⟨n, sg, h1, h2, hG.perm ?_⟩⟩
  exact List.perm_middle.symm
theorem getNo2_fn {n : Nat} (i : Int) (h0 : 0 ≤ i) (hc : ChG n G1 a1) (ha : a1 ≤ 2101) (hw : wtW (flatG G1) ≤ 20010) (hi : i < (n : Int)) (hG : Lg2 B w0 w d l m pre room S G1 a1 G2 a2 F) :
    Fn Tryz.prog 13 #[.pointer (some ⟨l, 0, none⟩), .int .i64 i] w fun r w' => r = .tuple #[.slice none 0 0, .int .i64 7] ∧ Lg2 B w0 w' d l m pre room S G1 a1 G2 a2 F := by
  obtain ⟨n, sg, h1, h2, hG⟩ := hG.of
  exact (chGetNo_fn i h0 hc ha hw hi hG).mono fun r w ⟨hr, hG⟩ => ⟨hr, ⟨n, sg, h1, h2, hG⟩⟩
theorem bounds2_fn (hG : Lg2 B w0 w d l m pre room S G1 a1 G2 a2 F) :
    Fn Tryz.prog 12 #[.pointer (some ⟨l, 0, none⟩)] w fun r w' => r = .tuple #[.int .i64 (lowW G1 a1 : Int), .int .i64 (a1 : Int)] ∧ Lg2 B w0 w' d l m pre room S G1 a1 G2 a2 F := by
  obtain ⟨n, sg, h1, h2, hG⟩ := hG.of
  exact (logBounds_fn hG).mono fun r w ⟨hr, hG⟩ => ⟨hr, ⟨n, sg, h1, h2, hG⟩⟩
end
set_option maxHeartbeats 16000000 in
theorem walDrops_fn (v : Value) (xs : List (Value × List UInt8)) (at_ : Int) (w0 : World) (htab : TabIs Tryz.prog w0 "internal/strconv.uint64pow10" .u64 pow10Tab) (hs : Sl w0 v (xs.map (·.1))) (hxs : ∀ p ∈ xs, Sl w0 p.1 (bv p.2) ∧ p.2.length ≤ 140737488355328) :
    Fn Tryz.prog 3 #[v, .int .i64 at_] w0 fun r w' => r = .bool true ∧ Below w0.heap.size w0 w' := by
  have ht : TabW w0.heap.size w0 := fun w h => tab_belowW htab h
  have hpw := wB_ok
  have hL := Sep.start Tryz.prog w0
  have hB := Nat.le_refl w0.heap.size
  have hle := hs.le
  obtain ⟨a, c, rfl⟩ := hs.shape
  simp only [List.length_map] at *
  have elem : ∀ {L : List Res} {w' : World}, Sep Tryz.prog w0.heap.size w0 w' L → ∀ k (hk : k < xs.length), ∃ b o, a = some ⟨b, o, none⟩ ∧ Row w' b o (xs.map (·.1)) := fun h k hk => (h.sl hs rfl).addr (by omega)
  obtain ⟨sm, hsm⟩ : ∃ sm : Nat → Nat, sm = fun k => wtW ((rB xs).take k) := ⟨_, rfl⟩
  have sm0 : sm 0 = 0 := by rw [hsm]; simp [wtW]
  have smS : ∀ k (h : k < xs.length), sm (k + 1) = sm k + (10 + (xs[k]).2.length) := fun k h => by rw [hsm]; dsimp only; rw [wt_succ h]
  have smN : sm xs.length = wtW (rB xs) := by rw [hsm]; dsimp only; rw [List.take_of_length_le (by rw [rB_len]; exact Nat.le_refl _)]
  clear hsm
  refine Fn.mk Tryz.func3 rfl (by kernel_rfl) Tryz.ntmps3 rfl (by rw [Tryz.results3]) ?_
  repeat (first | (refine RunH ?_; intro w hL hB; try clear w) | (refine Both.mk ?_ ?_ <;> conv => whnf) | fail)
  refine V.loop (α := Nat) (fun k => [(0, .slice a xs.length c), (1, .int .i64 at_), (5, .int .i64 (sm k : Int)), (6, .int .i64 (k : Int))])
    (fun k w' => k ≤ xs.length ∧ sm k ≤ 140737488400000 ∧ Sep Tryz.prog w0.heap.size w0 w' [] ∧ w0.heap.size ≤ w'.heap.size) (fun k => xs.length - k) 0 ⟨rfl, rfl, vint (by rw [sm0]; rfl), rfl, trivial⟩ ⟨by omega, by omega, hL, hB⟩ ?_
  clear hL hB
  rintro k w ⟨hk, hsum, hL, hB⟩
  try dsimp only at *
  by_cases hgo : k < xs.length ∧ sm k ≤ 20000
  · obtain ⟨hlt, hsm⟩ := hgo
    have hm := hxs _ (List.getElem_mem hlt)
    obtain ⟨bb, o, rfl, hrow⟩ := elem hL k hlt
    have hsu := smS k hlt
    repeat (first | (refine RunH ?_; intro w hL hB; try clear w) | (refine Both.mk ?_ ?_ <;> conv => whnf) | fail)
    intro o1 ho1
    conv => whnf
    obtain ⟨pa, pc, hpv⟩ := hm.1.shape
    rw [bv_length] at hpv
    refine Ld.row1 ttOk hrow (k := k) tl23 rfl (by rw [List.getElem?_map, List.getElem?_eq_getElem hlt]; exact congrArg some hpv) (by omega) ?_
    conv => whnf
    repeat (first | (refine RunH ?_; intro w hL hB; try clear w) | (refine Both.mk ?_ ?_ <;> conv => whnf) | fail)
    exact ⟨k + 1, ⟨rfl, rfl, vint (by rw [hsu]; push_cast; omega), vint (by push_cast; omega), trivial⟩, ⟨by omega, by omega, hL, hB⟩, (by first | omega | (dsimp only; omega))⟩
  by_cases hbig : 20000 < sm k
  · by_cases hlt : k < xs.length
    · have h20 : ¬ sm k ≤ 20000 := fun h => hgo ⟨hlt, h⟩
      repeat (first | (refine RunH ?_; intro w hL hB; try clear w) | (refine Both.mk ?_ ?_ <;> conv => whnf) | fail)
      exact ⟨rfl, hL.below⟩
    · repeat (first | (refine RunH ?_; intro w hL hB; try clear w) | (refine Both.mk ?_ ?_ <;> conv => whnf) | fail)
      exact ⟨rfl, hL.below⟩
  have hke : k = xs.length := by
    rcases Nat.lt_or_ge k xs.length with h | h
    · exact absurd ⟨h, by omega⟩ hgo
    · omega
  subst hke
  have hlt : ¬ xs.length < xs.length := by omega
  have hwt : wtW (rB xs) ≤ 20000 := by omega
  have hxl : xs.length ≤ 2000 := by
    have := wtW_len (rB xs)
    rw [rB_len] at this
    omega
  clear hsum hk hgo
  repeat (first | (refine RunH ?_; intro w hL hB; try clear w) | (refine Both.mk ?_ ?_ <;> conv => whnf) | fail)
  refine (new_fn 1048576 hL hB).mono fun r w hr => ?_
  obtain ⟨d, rfl, hD⟩ := hr.1 (by decide)
  replace hD : DkS w0.heap.size w0 w d 1048576 [] _ := hD
  clear hr hL hB
  obtain ⟨dL, hL, hB, close⟩ := hD.open
  clear hD
  conv => whnf
  repeat (first | (refine RunH ?_; intro w hL hB; try clear w) | (refine Both.mk ?_ ?_ <;> conv => whnf) | fail)
  refine (logOpen_fn (pre := wB) hpw ht (close (F' := []) hL hB)).mono fun r w ⟨l, hr, hG⟩ => ?_
  rw [open_nil] at hG
  replace hG : LgS w0.heap.size w0 w d l wB 1048576 (fsW wB []) (gsW []) 1 [] := hG
  subst hr
  clear hL hB close
  obtain ⟨X, hL, hB, back⟩ := hG.opn
  conv => whnf
  repeat (first | (refine RunH ?_; intro w hL hB; try clear w) | (refine Both.mk ?_ ?_ <;> conv => whnf) | fail)
  clear hL hB back
  refine V.loop (α := Nat) (fun k => [(0, .slice a xs.length c), (1, .int .i64 at_), (7, ptr d), (9, ptr l), (11, .int .i64 (k : Int))])
    (fun k w' => k ≤ xs.length ∧ ∃ H, Lone 1 0 H (k + 1) ((rB xs).take k) ∧ LgS w0.heap.size w0 w' d l wB 1048576 (fsW wB H) (gsW H) (k + 1) []) (fun k => xs.length - k) 0 ⟨rfl, rfl, rfl, rfl, rfl, trivial⟩ ⟨by omega, [], Lone.nil, hG⟩ ?_
  clear hG hlt
  rintro k w ⟨hk, H, hlo, hG⟩
  try dsimp only at *
  obtain ⟨X, hL, hB, back⟩ := hG.opn
  clear hG
  by_cases hlt : k < xs.length
  · obtain ⟨bb, o, rfl, hrow⟩ := elem hL k hlt
    have hm := hxs _ (List.getElem_mem hlt)
    have hrk := rB_take hlt
    generalize hxk : xs[k] = x at *
    obtain ⟨xv, xl⟩ := x
    obtain ⟨pa, pc, hpv⟩ := hm.1.shape
    rw [bv_length] at hpv
    dsimp only at hpv hm hrk
    subst hpv
    repeat (first | (refine RunH ?_; intro w hL hB; try clear w) | (refine Both.mk ?_ ?_ <;> conv => whnf) | fail)
    intro o1 ho1
    conv => whnf
    refine Ld.row1 ttOk hrow (k := k) tl23 rfl (by rw [List.getElem?_map, List.getElem?_eq_getElem hlt, hxk]; rfl) (by omega) ?_
    conv => whnf
    repeat (first | (refine RunH ?_; intro w hL hB; try clear w) | (refine Both.mk ?_ ?_ <;> conv => whnf) | fail)
    refine (loneAppend_fn _ xl ht hlo (by rw [← hrk]; have := wt_take (rB xs) (k + 1); omega) (by omega) (by omega) (fun w' h => h.sl hm.1 rfl) (back (F' := []) hL hB)).mono fun r w ⟨H2, hr, hlo, hG⟩ => ?_
    subst hr
    rw [← hrk] at hlo
    clear hL hB back hrow
    conv => whnf
    repeat (first | (refine RunH ?_; intro w hL hB; try clear w) | (refine Both.mk ?_ ?_ <;> conv => whnf) | fail)
    exact ⟨k + 1, ⟨rfl, rfl, rfl, rfl, vint (by push_cast; omega), trivial⟩, ⟨by omega, H2, hlo, hG⟩, (by first | omega | (dsimp only; omega))⟩
  obtain rfl : k = xs.length := by omega
  have hrx : (rB xs).take xs.length = rB xs := List.take_of_length_le (by rw [rB_len]; exact Nat.le_refl _)
  rw [hrx] at hlo
  repeat (first | (refine RunH ?_; intro w hL hB; try clear w) | (refine Both.mk ?_ ?_ <;> conv => whnf) | fail)
  refine Bt.maskI 65535 (by decide) rfl fun T hT => ?_
  conv => whnf
  repeat (first | (refine RunH ?_; intro w hL hB; try clear w) | (refine Both.mk ?_ ?_ <;> conv => whnf) | (refine Rem.at T (xs.length + 1) rfl (by push_cast; rfl) (by omega) ?_; conv => whnf) | fail)
  have hq0 := Nat.mod_lt T (show 0 < xs.length + 1 by omega)
  obtain ⟨q, hq⟩ : ∃ q : Nat, q = 1 + T % (xs.length + 1) := ⟨_, rfl⟩
  have hqe : (1 : Int) + ((T % (xs.length + 1) : Nat) : Int) = (q : Int) := by omega
  rw [hqe]
  clear hqe
  conv => whnf
  repeat (first | (refine RunH ?_; intro w hL hB; try clear w) | (refine Both.mk ?_ ?_ <;> conv => whnf) | fail)
  refine (loneDrop_fn (q : Int) (by omega) ht hlo (back (F' := []) hL hB)).mono fun r w ⟨H2, n, hr, hn1, hn2, hlo2, hG⟩ => ?_
  subst hr
  clear hL hB back
  obtain ⟨X, hL, hB, back⟩ := hG.opn
  clear hG
  conv => whnf
  repeat (first | (refine RunH ?_; intro w hL hB; try clear w) | (refine Both.mk ?_ ?_ <;> conv => whnf) | fail)
  refine (loneSync_fn 0 ht hlo2 (back (F' := []) hL hB)).mono fun r w ⟨H3, hr, hlo3, hall, hG⟩ => ?_
  subst hr
  clear hL hB back
  obtain ⟨X, hL, hB, back⟩ := hG.opn
  clear hG
  conv => whnf
  repeat (first | (refine RunH ?_; intro w hL hB; try clear w) | (refine Both.mk ?_ ?_ <;> conv => whnf) | fail)
  refine (logBounds_fn (back (F' := []) hL hB)).mono fun r w ⟨hr, hG⟩ => ?_
  rw [low_ch hlo3.ch] at hr
  subst hr
  clear hL hB back
  obtain ⟨nn, sg, hg1, hok, hD⟩ := hG.of
  clear hG
  obtain ⟨dL, hL, hB, close⟩ := hD.open
  clear hD
  have hw3 : wtW ((rB xs).drop (n - 1)) ≤ 20010 := hlo3.wt
  have hch3 := hlo3.ch
  have hfl3 := hlo3.flat
  obtain ⟨G, gaf, ho1, hch, hfl, hgaf, ho2, ho3⟩ : ∃ G gaf, (openG wB (fsW wB H3)).G = G ∧ (H3 ≠ [] → ChG n G (xs.length + 1)) ∧ flatG G = (rB xs).drop (n - 1) ∧ (H3 ≠ [] → gaf = xs.length + 1) ∧ (openG wB (fsW wB H3)).af = gaf ∧ (openG wB (fsW wB H3)).S = fsW wB H3 := by
    by_cases hne : H3 = []
    · subst hne
      refine ⟨[], 1, by rw [fsW, List.map_nil, open_nil], by simp, ?_, by simp, by rw [fsW, List.map_nil, open_nil], by rw [fsW, List.map_nil, open_nil]⟩
      rw [← hfl3]; rfl
    · obtain ⟨G, k1, k2, k3, k4, k5⟩ := hlo3.opened2 hne wB
      exact ⟨G, _, k1, fun _ => k2, k3, fun _ => rfl, k4, k5⟩
  conv => whnf
  repeat (first | (refine RunH ?_; intro w hL hB; try clear w) | (refine Both.mk ?_ ?_ <;> conv => whnf) | fail)
  refine (logOpen_fn (pre := wB) hpw ht (close (F' := logR l d wB nn sg (xs.length + 1)) (by simpa using hL) hB)).mono fun r w ⟨m, hr, hG⟩ => ?_
  rw [ho1, ho2, ho3] at hG
  subst hr
  clear hL hB close
  have hG2 : Lg2 w0.heap.size w0 w d m l wB 1048576 (fsW wB H3) G gaf (gsW H3) (xs.length + 1) [] := ⟨nn, sg, hg1, hok, by simpa using hG⟩
  clear hG hg1 hok
  obtain ⟨X, hL, hB, back⟩ := hG2.opn
  clear hG2
  conv => whnf
  repeat (first | (refine RunH ?_; intro w hL hB; try clear w) | (refine Both.mk ?_ ?_ <;> conv => whnf) | fail)
  refine (bounds2_fn (back (F' := []) hL hB)).mono fun r w ⟨hr, hG2⟩ => ?_
  subst hr
  clear hL hB back
  obtain ⟨X, hL, hB, back⟩ := hG2.opn
  clear hG2
  have hn3 := hch3.ge
  have hok : n < xs.length + 1 → ChG n G (xs.length + 1) ∧ gaf = xs.length + 1 ∧ lowW G gaf = n := fun h => by
    have hne : H3 ≠ [] := by
      rintro rfl
      have : n = xs.length + 1 := hch3
      omega
    have h1 := hch hne
    have h2 := hgaf hne
    exact ⟨h1, h2, by rw [h2]; exact low_ch h1⟩
  clear hch hgaf
  have hwf : wtW (flatG G) ≤ 20010 := by rw [hfl]; exact hw3
  have hwf3 : wtW (flatG (gsW H3)) ≤ 20010 := by rw [hfl3]; exact hw3
  have hat : ∀ k (hk : n + k < xs.length + 1), ((rB xs).drop (n - 1))[k]? = some (xs[n + k - 1]).2 := fun k hk => by
    rw [List.getElem?_drop, rB, List.getElem?_map, show n - 1 + k = n + k - 1 by omega, List.getElem?_eq_getElem (by omega)]; rfl
  rw [← hfl] at hat
  have hat3 : ∀ k (hk : n + k < xs.length + 1), (flatG (gsW H3))[k]? = some (xs[n + k - 1]).2 := fun k hk => by
    rw [hfl3, ← hfl]; exact hat k hk
  have hcond : ¬ (n < xs.length + 1 ∧ (lowW G gaf ≠ n ∨ gaf ≠ xs.length + 1)) := fun ⟨h1, h2⟩ => by
    obtain ⟨_, k2, k3⟩ := hok h1
    omega
  conv => whnf
  repeat (first | (refine Br.go ?_; first | ((first | refine Br.tt ?_ | refine Br.ff ?_ | refine Br.y ?_ | refine Br.n ?_ | refine Br.t ?_ | refine Br.f ?_ | fail); conv => whnf) | refine Br.not ?_ | fail) | (refine Ld.go ?_; first | ((first | refine Ld.x ttOk hL ?_ | refine Ld.p ttOk hL ?_ | fail); conv => whnf) | fail) | (refine St.x ttOk hL hB (fun w hL hB => ?_); dsimp only [List.set, splice, overL, cellsL, takeL, dropL, List.drop, List.take] at hL; conv => whnf) | (refine Lq.go ?_; first | ((first | refine Lq.x ttOk hL.cls ?_ | refine Lq.x ttOk (fun _ h => h) ?_ | refine Lq.p ttOk hL.cls ?_ | refine Lq.p ttOk (fun _ h => h) ?_ | fail); conv => whnf) | fail) | (refine Ar.go ?_; first | ((first | refine Ar.s ?_ | refine Ar.u ?_ | refine Ar.h ?_ | refine Ar.b ?_ | fail); conv => whnf) | fail) | ((first | refine Chk.m ?_ | refine Qv.str ttOk rfl rfl rfl ?_ | refine An.x hL ?_ | fail); conv => whnf) | (refine Both.mk ?_ ?_ <;> conv => whnf) | fail)
  refine V.seq ?_
  refine V.join (α := Unit) (fun _ => [(0, .slice a xs.length c), (9, ptr l), (13, .int .i64 (n : Int)), (14, .int .i64 ((xs.length + 1 : Nat) : Int)), (15, ptr m)]) (fun _ w' => w' = w) ?_ ?_
  · by_cases h1 : n < xs.length + 1
    · obtain ⟨_, k2, k3⟩ := hok h1
      have h1' : (n : Int) < ((xs.length + 1 : Nat) : Int) := by omega
      have k2' : (gaf : Int) = ((xs.length + 1 : Nat) : Int) := by omega
      have k3' : (lowW G gaf : Int) = (n : Int) := by omega
      repeat (first | (refine RunH ?_; intro w hL hB; try clear w) | (refine Both.mk ?_ ?_ <;> conv => whnf) | fail)
      exact ⟨(), ⟨rfl, rfl, rfl, rfl, rfl, trivial⟩, rfl⟩
    · have h1' : ¬ ((n : Int) < ((xs.length + 1 : Nat) : Int)) := by omega
      repeat (first | (refine RunH ?_; intro w hL hB; try clear w) | (refine Both.mk ?_ ?_ <;> conv => whnf) | fail)
      exact ⟨(), ⟨rfl, rfl, rfl, rfl, rfl, trivial⟩, rfl⟩
  rintro _ w' hww
  replace hww := hww.symm
  subst hww
  replace hG2 := back (F' := []) hL hB
  repeat (first | (refine RunH ?_; intro w hL hB; try clear w) | (refine Both.mk ?_ ?_ <;> conv => whnf) | fail)
  clear hL hB back
  refine V.loop (α := Nat) (fun j => [(0, .slice a xs.length c), (9, ptr l), (13, .int .i64 (n : Int)), (14, .int .i64 ((xs.length + 1 : Nat) : Int)), (15, ptr m), (19, .int .i64 ((n + j : Nat) : Int))])
    (fun j w' => n + j ≤ xs.length + 1 ∧ ∃ F, Lg2 w0.heap.size w0 w' d m l wB 1048576 (fsW wB H3) G gaf (gsW H3) (xs.length + 1) F) (fun j => xs.length + 1 - (n + j)) 0 ⟨rfl, rfl, rfl, rfl, rfl, rfl, trivial⟩ ⟨hn3, _, hG2⟩ ?_
  clear hG2
  rintro j w ⟨hj, F, hG2⟩
  try dsimp only at *
  by_cases hlt : n + j < xs.length + 1
  · obtain ⟨hch, hgaf, _⟩ := hok (by omega)
    have hjx : n + j - 1 < xs.length := by omega
    have hm := hxs _ (List.getElem_mem hjx)
    have hx1 := hat j hlt
    have hx3 := hat3 j hlt
    obtain ⟨X, hL, hB, back⟩ := hG2.opn
    obtain ⟨bb, o, rfl, hrow⟩ := elem hL (n + j - 1) hjx
    clear hrow hL hB back
    generalize hxk : xs[n + j - 1] = x at *
    obtain ⟨xv, xl⟩ := x
    obtain ⟨pa, pc, hpv⟩ := hm.1.shape
    rw [bv_length] at hpv
    dsimp only at hpv hm hx1 hx3
    subst hpv
    obtain ⟨X, hL, hB, back⟩ := hG2.swp.opn
    clear hG2
    repeat (first | (refine RunH ?_; intro w hL hB; try clear w) | (refine Both.mk ?_ ?_ <;> conv => whnf) | fail)
    refine (get2_fn (x := xl) (n + j) hch3 (by omega) hwf3 (by omega) (by rw [Nat.add_sub_cancel_left]; exact hx3) (back (F' := F) hL hB)).mono fun r w ⟨u, hr, hG2⟩ => ?_
    subst hr
    clear hL hB back
    obtain ⟨X, hL, hB, back⟩ := hG2.swp.opn
    clear hG2
    obtain ⟨ua, uc, rfl⟩ := (show SlN w 1 u _ _ from hL.rowN (i := 0) rfl).shape
    conv => whnf
    repeat (first | (refine RunH ?_; intro w hL hB; try clear w) | (refine Both.mk ?_ ?_ <;> conv => whnf) | fail)
    refine (get2_fn (x := xl) (n + j) (hgaf ▸ hch) (by omega) hwf (by omega) (by rw [Nat.add_sub_cancel_left]; exact hx1) (back (F' := _ :: F) hL hB)).mono fun r w ⟨u, hr, hG2⟩ => ?_
    subst hr
    clear hL hB back
    obtain ⟨X, hL, hB, back⟩ := hG2.opn
    clear hG2
    obtain ⟨va, vc, rfl⟩ := (show SlN w 1 u _ _ from hL.rowN (i := 0) rfl).shape
    obtain ⟨_, _, heq, hrow⟩ := elem hL (n + j - 1) hjx
    cases heq
    conv => whnf
    repeat (first | (refine RunH ?_; intro w hL hB; try clear w) | (refine Both.mk ?_ ?_ <;> conv => whnf) | fail)
    intro o1 ho1
    conv => whnf
    repeat (first | (refine RunH ?_; intro w hL hB; try clear w) | (refine Both.mk ?_ ?_ <;> conv => whnf) | fail)
    refine Ld.row1 ttOk hrow (k := n + j - 1) tl23 rfl (by rw [List.getElem?_map, List.getElem?_eq_getElem hjx, hxk]; rfl) (by omega) ?_
    conv => whnf
    repeat (first | (refine RunH ?_; intro w hL hB; try clear w) | (refine Both.mk ?_ ?_ <;> conv => whnf) | fail)
    refine (same_fn _ _ xl xl _ (hL.row (i := 1) rfl) (hL.sl hm.1 rfl)).mono fun r w ⟨hr, hw⟩ => ?_
    subst hr
    replace hL := hL.call hB (Turns.of_below hw)
    replace hB := Nat.le_trans hB hw.size
    rw [decide_eq_true rfl]
    conv => whnf
    repeat (first | (refine RunH ?_; intro w hL hB; try clear w) | (refine Both.mk ?_ ?_ <;> conv => whnf) | fail)
    refine (same_fn _ _ xl xl _ (hL.row (i := 0) rfl) (hL.row (i := 1) rfl)).mono fun r w ⟨hr, hw⟩ => ?_
    subst hr
    replace hL := hL.call hB (Turns.of_below hw)
    replace hB := Nat.le_trans hB hw.size
    rw [decide_eq_true rfl]
    conv => whnf
    repeat (first | (refine RunH ?_; intro w hL hB; try clear w) | (refine Both.mk ?_ ?_ <;> conv => whnf) | fail)
    exact ⟨j + 1, ⟨rfl, rfl, rfl, rfl, rfl, vint (by push_cast; omega), trivial⟩, ⟨by omega, _, back (F' := _ :: _ :: F) hL hB⟩, (by first | omega | (dsimp only; omega))⟩
  obtain ⟨X, hL, hB, back⟩ := hG2.swp.opn
  clear hG2
  repeat (first | (refine RunH ?_; intro w hL hB; try clear w) | (refine Both.mk ?_ ?_ <;> conv => whnf) | fail)
  refine (getNo2_fn ((n : Int) - 1) (by omega) hch3 (by omega) hwf3 (by omega) (back (F' := F) hL hB)).mono fun r w ⟨hr, hG2⟩ => ?_
  subst hr
  clear hL hB back
  obtain ⟨X, hL, hB, back⟩ := hG2.opn
  clear hG2
  conv => whnf
  repeat (first | (refine RunH ?_; intro w hL hB; try clear w) | (refine Both.mk ?_ ?_ <;> conv => whnf) | fail)
  refine (known_fn _ (tab_belowW htab hL.below)).mono fun r w ⟨hr, hw⟩ => ?_
  subst hr
  replace hL := hL.call hB (Turns.of_below hw)
  replace hB := Nat.le_trans hB hw.size
  conv => whnf
  repeat (first | (refine RunH ?_; intro w hL hB; try clear w) | (refine Both.mk ?_ ?_ <;> conv => whnf) | fail)
  exact ⟨rfl, hL.below⟩
end Go.Proofs.YtjafamiaahabgaaGreatDoor
