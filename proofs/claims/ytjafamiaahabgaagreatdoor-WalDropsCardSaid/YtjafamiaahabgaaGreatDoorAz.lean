/- wal: the code's operations on a log that is alone on its disk. Nothing is claimed here. -/
import Derived.Test.YtjafamiaahabgaaGreatDoorAy
import Derived.Test.YtjafamiaahabgaaGreatDoorLs
namespace Go.Proofs.YtjafamiaahabgaaGreatDoor
open Go.RowKit Go.Lib
set_option linter.unusedVariables false
set_option linter.unusedSimpArgs false
set_option maxRecDepth 100000

theorem LgS.perm {B : Nat} {w0 w : World} {d l room : Nat} {pre : ByteArray} {S : List Fl} {G : List Wg} {af : Nat} {F F' : List Res} (h : LgS B w0 w d l pre room S G af F) (hp : F.Perm F') : LgS B w0 w d l pre room S G af F' := by
  obtain ⟨X, hL, hB, back⟩ := h.opn
  exact back (hL.perm (hp.append_right _)) hB
theorem wB_ok : 1 ≤ wB.size ∧ wB.size ≤ 55 := by decide
section
variable {B d l n k af : Nat} {H : List (Wg × Nat)} {xs : List (List UInt8)} {F : List Res} {w0 w : World}
theorem loneAppend_fn (v : Value) (x : List UInt8) (ht : TabW B w0) (h : Lone n k H af xs) (hw : wtW (xs ++ [x]) ≤ 20010) (hk : k < af) (ha : af < 2100) (hv : ∀ w', Sep Tryz.prog B w0 w' F → Sl w' v (bv x)) (hG : LgS B w0 w d l wB 1048576 (fsW wB H) (gsW H) af F) :
    Fn Tryz.prog 9 #[.pointer (some ⟨l, 0, none⟩), v] w fun r w' => ∃ H', r = .tuple #[.int .i64 (af : Int), .int .i64 0] ∧ Lone n k H' (af + 1) (xs ++ [x]) ∧ LgS B w0 w' d l wB 1048576 (fsW wB H') (gsW H') (af + 1) F := by
  obtain ⟨H', h1, h2, h3, h4⟩ := h.append wB_ok hw hk ha
  have hxl := wtW_mem (xs := xs ++ [x]) (x := x) (by simp)
  refine (logAppend_fn v x (by omega) wB_ok ht h.hlen h.hfs h.ch.last hv hG).mono fun r w ⟨hr, hG⟩ => ⟨H', ?_, h1, ?_⟩
  · rw [hr, h2]; rfl
  · rw [h2, h3, h4] at hG; exact hG
theorem loneSync_fn (k' : Nat) (ht : TabW B w0) (h : Lone n k H af xs) (hG : LgS B w0 w d l wB 1048576 (fsW wB H) (gsW H) af F) :
    Fn Tryz.prog 11 #[.pointer (some ⟨l, 0, none⟩)] w fun r w' => ∃ H', r = .int .i64 0 ∧ Lone n k' H' af xs ∧ (∀ g ∈ H', g.2 = g.1.size) ∧ LgS B w0 w' d l wB 1048576 (fsW wB H') (gsW H') af F := by
  obtain ⟨h1, h2, h3, h4⟩ := h.sync (pre := wB) k'
  refine (logSync_fn wB_ok ht h.hlen (fun g hg => (h.hfs g hg).1) hG).mono fun r w ⟨hr, hG⟩ => ⟨_, hr, h1, h4, ?_⟩
  rw [h2, h3] at hG; exact hG
theorem loneCut_fn (i : Nat) (hi : n ≤ i ∧ i ≤ af) (ht : TabW B w0) (h : Lone n 0 H af xs) (hG : LgS B w0 w d l wB 1048576 (fsW wB H) (gsW H) af F) :
    Fn Tryz.prog 16 #[.pointer (some ⟨l, 0, none⟩), .int .i64 (i : Int)] w fun r w' => ∃ H', r = .int .i64 0 ∧ Lone n 0 H' i (xs.take (i - n)) ∧ LgS B w0 w' d l wB 1048576 (fsW wB H') (gsW H') i F := by
  obtain ⟨H', h1, h2, h3⟩ := h.cut (pre := wB) hi
  refine (logCut_fn (i : Int) wB_ok ht h.hlen (by have := h.lim; omega) h.hfs hG).mono fun r w ⟨hr, hG⟩ => ⟨H', ?_, h1, ?_⟩
  · rw [hr, h2]; rfl
  · rw [h2, h3] at hG; exact hG
theorem loneDrop_fn (i : Int) (hi : (n : Int) ≤ i ∧ i ≤ (af : Int)) (ht : TabW B w0) (h : Lone n k H af xs) (hG : LgS B w0 w d l wB 1048576 (fsW wB H) (gsW H) af F) :
    Fn Tryz.prog 10 #[.pointer (some ⟨l, 0, none⟩), .int .i64 i] w fun r w' => ∃ H' m, r = .int .i64 0 ∧ n ≤ m ∧ (m : Int) ≤ i ∧ Lone m k H' af (xs.drop (m - n)) ∧ LgS B w0 w' d l wB 1048576 (fsW wB H') (gsW H') af F := by
  obtain ⟨H', m, h1, h2, h3, h4, h5⟩ := h.drop (pre := wB) hi
  refine (logDrop_fn i wB_ok ht h.hlen h.hfs hG).mono fun r w ⟨hr, hG⟩ => ⟨H', m, ?_, h1, h2, h3, ?_⟩
  · rw [hr, h4]; rfl
  · rw [h4, h5] at hG; exact hG
/-- an entry that is there -/
theorem chGet_fn {pre : ByteArray} {room : Nat} {S : List Fl} {G : List Wg} (i : Nat) (hc : ChG n G af) (ha : af ≤ 2101) (hw : wtW (flatG G) ≤ 20010) (hi : n ≤ i) {x : List UInt8} (hx : (flatG G)[i - n]? = some x) (hG : LgS B w0 w d l pre room S G af F) :
    Fn Tryz.prog 13 #[.pointer (some ⟨l, 0, none⟩), .int .i64 (i : Int)] w fun r w' => ∃ u, r = .tuple #[u, .int .i64 0] ∧ LgS B w0 w' d l pre room S G af (.row 5 1 u x.length (bv x) :: F) := by
  obtain ⟨h1, h2⟩ := hc.hfs ha hw
  have hl := (List.getElem?_eq_some_iff.1 hx).1
  have haf := hc.af
  have e : getW G (i : Int) = some x := by rw [getW_ch hc i hi, hx]
  refine (logGet_fn (i : Int) (by omega) h2 h1 hc.apart hG).mono fun r w h => ?_
  rw [e] at h
  exact h
theorem chGetNo_fn {pre : ByteArray} {room : Nat} {S : List Fl} {G : List Wg} (i : Int) (h0 : 0 ≤ i) (hc : ChG n G af) (ha : af ≤ 2101) (hw : wtW (flatG G) ≤ 20010) (hi : i < (n : Int)) (hG : LgS B w0 w d l pre room S G af F) :
    Fn Tryz.prog 13 #[.pointer (some ⟨l, 0, none⟩), .int .i64 i] w fun r w' => r = .tuple #[.slice none 0 0, .int .i64 7] ∧ LgS B w0 w' d l pre room S G af F := by
  obtain ⟨h1, h2⟩ := hc.hfs ha hw
  have haf := hc.ge
  refine (logGet_fn i (by omega) h2 h1 hc.apart hG).mono fun r w h => ?_
  rw [getW_low hc hi] at h
  exact h
end
theorem ChG.redo {f : Wg → Wg} (hf : ∀ g, (f g).first = g.first ∧ (f g).es = g.es) : ∀ {G : List Wg} {n af : Nat}, ChG n G af → ChG n (G.map f) af
  | [], _, _, h => h
  | g :: gs, n, af, ⟨h1, h2, h3⟩ => by
    refine ⟨(hf g).1.trans h1, fun hc => ?_, ?_⟩
    · rw [(hf g).2]; exact h2 (by intro h; exact hc (by rw [h]; rfl))
    · have e : (f g).next = g.next := by rw [Wg.next, Wg.next, (hf g).1, (hf g).2]
      show ChG (f g).next (gs.map f) af
      rw [e]; exact ChG.redo hf h3
theorem flatG_redo {f : Wg → Wg} (hf : ∀ g, (f g).es = g.es) (G : List Wg) : flatG (G.map f) = flatG G := by
  rw [flatG, flatG, List.flatMap_map]
  congr 1
  funext g; exact hf g
theorem Lone.opened2 {n k af : Nat} {H : List (Wg × Nat)} {xs : List (List UInt8)} (h : Lone n k H af xs) (hne : H ≠ []) (pre : ByteArray) :
    ∃ G, (openG pre (fsW pre H)).G = G ∧ ChG n G af ∧ flatG G = xs ∧ (openG pre (fsW pre H)).af = af ∧ (openG pre (fsW pre H)).S = fsW pre H := by
  obtain ⟨h1, h2, h3⟩ := h.opened pre
  exact ⟨_, h1, h.ch.redo (f := fun g => ⟨g.first, g.es, true⟩) (fun _ => ⟨rfl, rfl⟩), (flatG_redo (f := fun g => ⟨g.first, g.es, true⟩) (fun _ => rfl) _).trans h.flat, h2 hne, h3⟩
def rB (xs : List (Value × List UInt8)) : List (List UInt8) := xs.map (·.2)
theorem rB_len (xs : List (Value × List UInt8)) : (rB xs).length = xs.length := List.length_map _
theorem rB_take {xs : List (Value × List UInt8)} {k : Nat} (h : k < xs.length) : (rB xs).take (k + 1) = (rB xs).take k ++ [(xs[k]).2] := by
  rw [List.take_succ_eq_append_getElem (by rw [rB_len]; exact h)]
  simp [rB]
theorem wt_succ {xs : List (Value × List UInt8)} {k : Nat} (h : k < xs.length) : wtW ((rB xs).take (k + 1)) = wtW ((rB xs).take k) + (10 + (xs[k]).2.length) := by
  rw [rB_take h, wtW_app]; simp [wtW]
theorem wt_take (xs : List (List UInt8)) (k : Nat) : wtW (xs.take k) ≤ wtW xs := by
  have := wtW_app (xs.take k) (xs.drop k)
  rw [List.take_append_drop] at this
  omega
theorem open_nil (pre : ByteArray) : openG pre [] = ⟨[], 1, [], true⟩ := by simp [openG, names]
end Go.Proofs.YtjafamiaahabgaaGreatDoor
