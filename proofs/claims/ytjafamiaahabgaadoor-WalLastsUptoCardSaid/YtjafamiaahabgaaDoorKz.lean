/- wal, plain: the segments of a log follow one another; one log alone on its disk. wal, plain: one log alone on its disk, step by step. wal, plain: one log alone on its disk: Sync, Drop, Cut. wal, plain: one log alone on its disk, opened behind a crash. wal: the code's operations on a log that is alone on its disk. wal: the law WalLasts. Nothing is claimed here. -/
import Derived.Test.YtjafamiaahabgaaDoorAu
import Derived.Test.YtjafamiaahabgaaDoorAl
import Derived.Test.YtjafamiaahabgaaDoorAp
import Derived.Test.YtjafamiaahabgaaDoorLs
namespace Go.Proofs.YtjafamiaahabgaaDoor
open Go.RowKit Go.Lib
set_option linter.unusedVariables false
set_option linter.unusedSimpArgs false
set_option maxRecDepth 100000

/-- segments that follow one another, from n on to af; none but the last may be without entries -/
def ChG : Nat → List Wg → Nat → Prop
  | n, [], af => n = af
  | n, g :: gs, af => g.first = n ∧ (gs ≠ [] → g.es ≠ []) ∧ ChG g.next gs af
def flatG (G : List Wg) : List (List UInt8) := G.flatMap Wg.es
theorem flatG_cons (g : Wg) (G : List Wg) : flatG (g :: G) = g.es ++ flatG G := rfl
theorem flatG_app (A B : List Wg) : flatG (A ++ B) = flatG A ++ flatG B := List.flatMap_append
theorem ChG.af : ∀ {G : List Wg} {n af : Nat}, ChG n G af → af = n + (flatG G).length
  | [], n, af, h => by
    have h : n = af := h
    simp [flatG, h]
  | g :: gs, n, af, ⟨h1, h2, h3⟩ => by
    have h4 := ChG.af h3
    rw [flatG_cons, List.length_append]
    rw [Wg.next] at h4
    omega
theorem ChG.ge {G : List Wg} {n af : Nat} (h : ChG n G af) : n ≤ af := by have := h.af; omega
theorem ChG.mem : ∀ {G : List Wg} {n af : Nat}, ChG n G af → ∀ g ∈ G, n ≤ g.first ∧ g.next ≤ af
  | q :: gs, n, af, ⟨h1, h2, h3⟩, g, hg => by
    have h4 := h3.ge
    have h5 : q.next = q.first + q.es.length := rfl
    rcases List.mem_cons.1 hg with rfl | hg
    · omega
    · have := ChG.mem h3 g hg
      omega
theorem ChG.apart : ∀ {G : List Wg} {n af : Nat}, ChG n G af → apartW G
  | [], _, _, _ => by intro x y p q _ hp; simp at hp
  | g :: gs, n, af, ⟨h1, h2, h3⟩ => by
    intro x y p q hxy hp hq
    cases y with
    | zero => omega
    | succ y =>
      rw [List.getElem?_cons_succ] at hq
      cases x with
      | zero =>
        rw [List.getElem?_cons_zero] at hp
        obtain rfl := Option.some.inj hp
        have hm := List.mem_of_getElem? hq
        have h4 := h2 (List.ne_nil_of_mem hm)
        have h5 := (h3.mem q hm).1
        have h6 := List.length_pos_iff.2 h4
        have h7 : g.next = g.first + g.es.length := rfl
        omega
      | succ x =>
        rw [List.getElem?_cons_succ] at hp
        exact ChG.apart h3 x y p q (by omega) hp hq
theorem ChG.rises {G : List Wg} {n af : Nat} (h : ChG n G af) : G.Pairwise fun a b => a.first < b.first := by
  rw [List.pairwise_iff_getElem]
  intro i j hi hj hij
  exact (h.apart i j _ _ hij (List.getElem?_eq_getElem hi) (List.getElem?_eq_getElem hj)).1
theorem ChG.last : ∀ {G : List Wg} {n af : Nat}, ChG n G af → ∀ g, G.getLast? = some g → g.next = af
  | [], _, _, _, g, h => by simp at h
  | [q], n, af, ⟨_, _, h3⟩, g, h => by
    simp only [List.getLast?_singleton, Option.some.injEq] at h
    subst h; exact h3
  | q :: r :: gs, n, af, ⟨_, _, h3⟩, g, h => by
    rw [List.getLast?_cons_cons] at h
    exact ChG.last h3 g h
theorem ChG.app : ∀ {A B : List Wg} {n m af : Nat}, ChG n A m → (∀ g ∈ A, g.es ≠ []) → ChG m B af → ChG n (A ++ B) af
  | [], B, n, m, af, h, _, hB => by
    have h : n = m := h
    subst h; exact hB
  | g :: A, B, n, m, af, ⟨h1, h2, h3⟩, hA, hB => ⟨h1, fun _ => hA g (List.mem_cons_self ..), ChG.app h3 (fun q hq => hA q (List.mem_cons_of_mem _ hq)) hB⟩
theorem ChG.split : ∀ {A B : List Wg} {n af : Nat}, ChG n (A ++ B) af → ∃ m, ChG n A m ∧ ChG m B af
  | [], B, n, af, h => ⟨n, rfl, h⟩
  | g :: A, B, n, af, ⟨h1, h2, h3⟩ => by
    obtain ⟨m, hA, hB⟩ := ChG.split h3
    exact ⟨m, ⟨h1, fun hne => h2 (by simp [hne]), hA⟩, hB⟩
/-- an entry by its number -/
theorem getW_ch : ∀ {G : List Wg} {n af : Nat}, ChG n G af → ∀ i : Nat, n ≤ i → getW G i = (flatG G)[i - n]?
  | [], n, af, _, i, _ => by simp [getW, findW, flatG]
  | g :: gs, n, af, ⟨h1, h2, h3⟩, i, hi => by
    have hn : g.next = g.first + g.es.length := rfl
    by_cases h : i < g.next
    · have hl : i - n < g.es.length := by omega
      rw [getW, findW, List.find?_cons_of_pos (by simp; omega), flatG_cons, List.getElem?_append_left hl]
      simp only [Option.map_some]
      rw [show ((i : Int) - (g.first : Nat)).toNat = i - n by omega, List.getD_eq_getElem?_getD, List.getElem?_eq_getElem hl]
      rfl
    · have ih := getW_ch h3 i (by omega)
      rw [getW, findW] at ih ⊢
      rw [List.find?_cons_of_neg (by simp; omega), ih, flatG_cons, List.getElem?_append_right (by omega)]
      congr 1; omega
theorem getW_low {G : List Wg} {n af : Nat} (h : ChG n G af) {i : Int} (hi : i < (n : Int)) : getW G i = none := by
  rw [getW, findW, List.find?_eq_none.2]
  · rfl
  · intro g hg
    have := (h.mem g hg).1
    simp; omega
/-! ### bytes -/
def wtW (xs : List (List UInt8)) : Nat := (xs.map fun x => 10 + x.length).sum
theorem wtW_app (a b : List (List UInt8)) : wtW (a ++ b) = wtW a + wtW b := by simp [wtW]
theorem wtW_cons (x : List UInt8) (xs : List (List UInt8)) : wtW (x :: xs) = 10 + x.length + wtW xs := by simp [wtW]
theorem wtW_len : ∀ xs : List (List UInt8), 10 * xs.length ≤ wtW xs
  | [] => by simp [wtW]
  | x :: xs => by
    have := wtW_len xs
    rw [wtW_cons, List.length_cons]; omega
theorem wtW_mem : ∀ {xs : List (List UInt8)} {x : List UInt8}, x ∈ xs → x.length + 10 ≤ wtW xs
  | y :: xs, x, h => by
    rw [wtW_cons]
    rcases List.mem_cons.1 h with rfl | h
    · omega
    · have := wtW_mem h; omega
theorem recL_le {n : Nat} (h : n < 16384) (x : List UInt8) : recL n x ≤ 10 + x.length := by
  have : (encU n).length ≤ 2 := by
    unfold encU encG
    split
    · simp
    · unfold encG
      rw [if_pos (by omega)]
      simp
  rw [recL]; omega
theorem lenW_le : ∀ (xs : List (List UInt8)) (n : Nat), n + xs.length ≤ 16384 → lenW n xs ≤ wtW xs
  | [], n, _ => by simp [lenW, wtW]
  | x :: xs, n, h => by
    rw [List.length_cons] at h
    have h1 := lenW_le xs (n + 1) (by omega)
    have h2 := recL_le (n := n) (by omega) x
    rw [lenW, wtW_cons]; omega
theorem lenW_app : ∀ (n : Nat) (a b : List (List UInt8)), lenW n (a ++ b) = lenW n a + lenW (n + a.length) b
  | n, [], b => by simp [lenW]
  | n, x :: a, b => by
    rw [List.cons_append, lenW, lenW, lenW_app (n + 1) a b, List.length_cons, show n + 1 + a.length = n + (a.length + 1) by omega]; omega
theorem lenW_take (n : Nat) (xs : List (List UInt8)) (k : Nat) : lenW n (xs.take k) ≤ lenW n xs := by
  have h := lenW_app n (xs.take k) (xs.drop k)
  rw [List.take_append_drop] at h
  omega
theorem recsW_app : ∀ (n : Nat) (a b : List (List UInt8)), recsW n (a ++ b) = recsW n a ++ recsW (n + a.length) b
  | n, [], b => by simp [recsW]
  | n, x :: a, b => by
    rw [List.cons_append, recsW, recsW, recsW_app (n + 1) a b, List.length_cons, show n + 1 + a.length = n + (a.length + 1) by omega, List.append_assoc]
theorem recsW_take (n : Nat) (xs : List (List UInt8)) (k : Nat) : (recsW n xs).take (lenW n (xs.take k)) = recsW n (xs.take k) := by
  have h := recsW_app n (xs.take k) (xs.drop k)
  rw [List.take_append_drop] at h
  rw [h, List.take_left' (recsW_len _ _)]
/-! ### the disk's files -/
theorem getS_nm : ∀ {S : List Fl} {nm : ByteArray}, (∀ f ∈ S, f.nm ≠ nm) → getS S nm = none
  | [], _, _ => rfl
  | f :: S, nm, h => by rw [getS, if_neg (h f (List.mem_cons_self ..)), getS_nm fun g hg => h g (List.mem_cons_of_mem _ hg)]
theorem getS_at : ∀ {A C : List Fl} {f : Fl} {nm : ByteArray}, (∀ g ∈ A, g.nm ≠ nm) → f.nm = nm → getS (A ++ f :: C) nm = some f
  | [], C, f, nm, _, hf => by rw [List.nil_append, getS, if_pos hf]
  | g :: A, C, f, nm, h, hf => by rw [List.cons_append, getS, if_neg (h g (List.mem_cons_self ..)), getS_at (fun q hq => h q (List.mem_cons_of_mem _ hq)) hf]
theorem putS_end : ∀ {S : List Fl} {g : Fl}, (∀ f ∈ S, f.nm ≠ g.nm) → putS S g = S ++ [g]
  | [], _, _ => rfl
  | f :: S, g, h => by rw [putS, if_neg (h f (List.mem_cons_self ..)), putS_end fun q hq => h q (List.mem_cons_of_mem _ hq)]; rfl
theorem putS_at : ∀ {A C : List Fl} {f g : Fl}, (∀ x ∈ A, x.nm ≠ g.nm) → f.nm = g.nm → putS (A ++ f :: C) g = A ++ g :: C
  | [], C, f, g, _, hf => by rw [List.nil_append, putS, if_pos hf]; rfl
  | x :: A, C, f, g, h, hf => by rw [List.cons_append, putS, if_neg (h x (List.mem_cons_self ..)), putS_at (fun q hq => h q (List.mem_cons_of_mem _ hq)) hf]; rfl
theorem delS_at : ∀ {A C : List Fl} {f : Fl} {nm : ByteArray}, (∀ g ∈ A, g.nm ≠ nm) → f.nm = nm → delS (A ++ f :: C) nm = A ++ C
  | [], C, f, nm, _, hf => by rw [List.nil_append, delS, if_pos hf]; rfl
  | g :: A, C, f, nm, h, hf => by rw [List.cons_append, delS, if_neg (h g (List.mem_cons_self ..)), delS_at (fun q hq => h q (List.mem_cons_of_mem _ hq)) hf]; rfl
theorem nm_apart {pre : ByteArray} {A : List (Wg × Nat)} {n : Nat} (hn : n ≤ 99999999) (h : ∀ g ∈ A, g.1.first < n) : ∀ f ∈ A.map (fileW pre), f.nm ≠ wnm pre n := by
  intro f hf he
  obtain ⟨g, hg, rfl⟩ := List.mem_map.1 hf
  have h1 := h g hg
  have := wnm_inj (by omega) hn (show wnm pre g.1.first = wnm pre n from he)
  omega
end Go.Proofs.YtjafamiaahabgaaDoor
namespace Go.Proofs.YtjafamiaahabgaaDoor
open Go.RowKit Go.Lib
set_option linter.unusedVariables false
set_option linter.unusedSimpArgs false
set_option maxRecDepth 100000

def gsW (H : List (Wg × Nat)) : List Wg := H.map (·.1)
def fsW (pre : ByteArray) (H : List (Wg × Nat)) : List Fl := H.map (fileW pre)
/-- a log from number n on to af, of the entries xs; what is numbered up to k lasts -/
structure Lone (n k : Nat) (H : List (Wg × Nat)) (af : Nat) (xs : List (List UInt8)) : Prop where
  ch : ChG n (gsW H) af
  ne : ∀ g ∈ H, g.1.es ≠ []
  flat : flatG (gsW H) = xs
  big : ∀ g ∈ H.dropLast, 1024 ≤ g.1.size
  la : ∀ g ∈ H, g.2 ≤ g.1.size ∧ (g.1.dirty = true ∨ g.2 = g.1.size) ∧ lenW g.1.first (g.1.es.take (k + 1 - g.1.first)) ≤ g.2
  one : 1 ≤ n
  lim : af ≤ 2100
  wt : wtW xs ≤ 20010
theorem neW {H : List (Wg × Nat)} (h : ∀ g ∈ H, g.1.es ≠ []) : ∀ g ∈ gsW H, g.es ≠ [] := fun g hg => by
  obtain ⟨q, hq, rfl⟩ := List.mem_map.1 hg
  exact h q hq
theorem Lone.nil {k : Nat} : Lone 1 k [] 1 [] := ⟨rfl, by simp, rfl, by simp, by simp, by decide, by decide, by decide⟩
theorem tot_sizes (pre : ByteArray) : ∀ (H : List (Wg × Nat)) (n af : Nat), ChG n (gsW H) af → af ≤ 2100 → totS (fsW pre H) ≤ wtW (flatG (gsW H)) ∧ ∀ g ∈ H, g.1.size ≤ totS (fsW pre H)
  | [], n, af, _, _ => by simp [fsW, totS]
  | g :: H, n, af, ⟨h1, h2, h3⟩, hl => by
    obtain ⟨i1, i2⟩ := tot_sizes pre H _ _ h3 hl
    have h4 := (ChG.mem (G := g.1 :: gsW H) ⟨h1, h2, h3⟩ g.1 (List.mem_cons_self ..)).2
    rw [Wg.next] at h4
    have h5 := lenW_le g.1.es g.1.first (by omega)
    have e1 : totS (fsW pre (g :: H)) = g.1.size + totS (fsW pre H) := by
      simp [totS, fsW, fileW, recsW_len, Wg.size]
    have e2 : wtW (flatG (gsW (g :: H))) = wtW g.1.es + wtW (flatG (gsW H)) := by
      rw [gsW, List.map_cons, flatG_cons, wtW_app]; rfl
    have e3 : g.1.size = lenW g.1.first g.1.es := rfl
    refine ⟨by omega, fun q hq => ?_⟩
    rcases List.mem_cons.1 hq with rfl | hq
    · omega
    · have := i2 q hq; omega
theorem len_big (pre : ByteArray) : ∀ (H : List (Wg × Nat)), (∀ g ∈ H, 1024 ≤ g.1.size) → 1024 * H.length ≤ totS (fsW pre H)
  | [], _ => by simp
  | g :: H, h => by
    have i := len_big pre H fun q hq => h q (List.mem_cons_of_mem _ hq)
    have e1 : totS (fsW pre (g :: H)) = g.1.size + totS (fsW pre H) := by
      simp [totS, fsW, fileW, recsW_len, Wg.size]
    have := h g (List.mem_cons_self ..)
    rw [List.length_cons]; omega
theorem totS_app (A B : List Fl) : totS (A ++ B) = totS A + totS B := by simp [totS]
section
variable {n k af : Nat} {H : List (Wg × Nat)} {xs : List (List UInt8)} (h : Lone n k H af xs)
include h
theorem Lone.tot (pre : ByteArray) : totS (fsW pre H) ≤ 20010 := by
  have := (tot_sizes pre H n af h.ch h.lim).1
  have := h.wt
  have := h.flat
  simp_all; omega
theorem Lone.few : H.length ≤ 100 := by
  have h1 := len_big ⟨#[]⟩ H.dropLast h.big
  have h2 := h.tot ⟨#[]⟩
  have h3 : totS (fsW ⟨#[]⟩ H.dropLast) ≤ totS (fsW ⟨#[]⟩ H) := by
    rcases List.eq_nil_or_concat H with rfl | ⟨A, g, rfl⟩
    · exact Nat.le_refl _
    · rw [List.concat_eq_append, List.dropLast_concat, fsW, fsW, List.map_append, totS_app]
      omega
  rw [List.length_dropLast] at h1
  omega
theorem Lone.sz : ∀ g ∈ gsW H, (1 ≤ g.first ∧ g.first ≤ 2100) ∧ g.size ≤ 20010 ∧ g.es.length ≤ 2100 := fun g hg => by
  obtain ⟨q, hq, rfl⟩ := List.mem_map.1 hg
  have h1 := h.ch.mem q.1 (List.mem_map.2 ⟨q, hq, rfl⟩)
  have h2 := (tot_sizes ⟨#[]⟩ H n af h.ch h.lim).2 q hq
  have h3 := h.tot ⟨#[]⟩
  have h4 := h.lim
  have h5 := h.one
  rw [Wg.next] at h1
  omega
theorem Lone.hfs : ∀ g ∈ gsW H, g.first ≤ 99999999 ∧ g.size ≤ 1073741824 := fun g hg => by
  have := h.sz g hg; omega
theorem Lone.hlen : (gsW H).length ≤ 1000000000 := by
  have := h.few
  rw [gsW, List.length_map]; omega
theorem Lone.entry : ∀ q ∈ H, (∀ x ∈ q.1.es, x.length ≤ 1048566) ∧ q.1.es.length ≤ 1000000000 := fun q hq => by
  refine ⟨fun x hx => ?_, by have := h.sz q.1 (List.mem_map.2 ⟨q, hq, rfl⟩); omega⟩
  have h1 : x ∈ xs := by
    rw [← h.flat, flatG]
    exact List.mem_flatMap.2 ⟨q.1, List.mem_map.2 ⟨q, hq, rfl⟩, hx⟩
  have := wtW_mem h1
  have := h.wt
  omega
/-- the log, opened anew -/
theorem Lone.opened (pre : ByteArray) : (openG pre (fsW pre H)).G = (gsW H).map (fun g => ⟨g.first, g.es, true⟩) ∧ (H ≠ [] → (openG pre (fsW pre H)).af = af) ∧ (openG pre (fsW pre H)).S = fsW pre H := by
  cases H with
  | nil => exact ⟨by simp [fsW, openG, names, gsW], by simp, by simp [fsW, openG, names]⟩
  | cons g H =>
    have hc : ∀ (H : List (Wg × Nat)) (n af : Nat), ChG n (gsW H) af → chW n H ∧ lastN n H = af := by
      intro H
      induction H with
      | nil => intro n af h; exact ⟨trivial, h⟩
      | cons q H ih =>
        intro n af h
        obtain ⟨h1, h2, h3⟩ := h
        obtain ⟨h4, h5⟩ := ih _ _ h3
        exact ⟨⟨h1, h4⟩, h5⟩
    obtain ⟨c1, c2⟩ := hc _ _ _ h.ch.2.2
    have hr : (g :: H).Pairwise fun a b => a.1.first < b.1.first := by
      have := h.ch.rises
      rw [gsW, List.pairwise_map] at this
      exact this
    have ho := openG_whole (pre := pre) c1 hr (fun q hq => by have := h.sz q.1 (List.mem_map.2 ⟨q, hq, rfl⟩); omega) h.entry
    rw [fsW, ho]
    refine ⟨by simp [gsW, Function.comp_def], fun _ => c2, rfl⟩
end
/-- an entry is laid -/
theorem Lone.append {pre : ByteArray} {n k af : Nat} {H : List (Wg × Nat)} {xs : List (List UInt8)} {x : List UInt8} (h : Lone n k H af xs) (hp : 1 ≤ pre.size ∧ pre.size ≤ 55) (hw : wtW (xs ++ [x]) ≤ 20010) (hk : k < af) (ha : af < 2100) :
    ∃ H', Lone n k H' (af + 1) (xs ++ [x]) ∧ apE pre 1048576 (fsW pre H) (gsW H) af x = 0 ∧ apS pre 1048576 (fsW pre H) (gsW H) af x = fsW pre H' ∧ apG (gsW H) af x = gsW H' := by
  have hxl : x.length ≤ 20000 := by
    have := wtW_mem (xs := xs ++ [x]) (x := x) (by simp)
    omega
  have hr := recL_le (n := af) (by omega) x
  have htot := h.tot pre
  have hfew := h.few
  have hne0 := neW h.ne
  have hcm := h.ch.mem
  have hsz : ∀ m, m ≤ 99999999 → 1 ≤ (wnm pre m).size ∧ (wnm pre m).size ≤ 64 := fun m hm => by
    have := wnm_size (pre := pre) hm
    omega
  have hfirst : ∀ g ∈ H, g.1.first < af := fun g hg => by
    have h1 := hcm g.1 (List.mem_map.2 ⟨g, hg, rfl⟩)
    have h2 := List.length_pos_iff.2 (h.ne g hg)
    rw [Wg.next] at h1
    omega
  have hE : ∀ m, m ≤ 99999999 → appE 1048576 (fsW pre H) (wnm pre m) (recL af x) = 0 := fun m hm => by
    have := hsz m hm
    have hl : (fsW pre H).length = H.length := List.length_map _
    rw [appE, if_neg (by omega), if_neg (by rw [hl]; omega)]
  by_cases hf : freshW (gsW H) = true
  · have ht : takesW (gsW H) af = af := by
      unfold freshW at hf
      unfold takesW
      cases hl : lastW (gsW H) with
      | none => rfl
      | some g => rw [hl] at hf; simp only [decide_eq_true_eq] at hf; simp only [hf, if_true]
    refine ⟨H ++ [(⟨af, [x], true⟩, 0)], ?_, ?_, ?_, ?_⟩
    · refine ⟨?_, ?_, ?_, ?_, ?_, h.one, by omega, hw⟩
      · rw [gsW, List.map_append]
        exact ChG.app h.ch hne0 ⟨rfl, fun hc => absurd rfl hc, rfl⟩
      · intro g hg
        rcases List.mem_append.1 hg with hg | hg
        · exact h.ne g hg
        · rw [List.mem_singleton.1 hg]; simp
      · rw [gsW, List.map_append, flatG_app, ← h.flat]; simp [flatG, gsW]
      · rw [List.dropLast_concat]
        intro g hg
        rcases List.eq_nil_or_concat H with rfl | ⟨A, q, rfl⟩
        · simp at hg
        · rw [List.concat_eq_append] at hg hf
          rcases List.mem_append.1 hg with hA | hq
          · exact h.big g (by rw [List.concat_eq_append, List.dropLast_concat]; exact hA)
          · obtain rfl := List.mem_singleton.1 hq
            simp [freshW, lastW, gsW] at hf
            exact hf
      · intro g hg
        rcases List.mem_append.1 hg with hg | hg
        · exact h.la g hg
        · rw [List.mem_singleton.1 hg]
          refine ⟨Nat.zero_le _, .inl rfl, ?_⟩
          rw [show k + 1 - af = 0 by omega]
          simp [lenW]
    · rw [apE, if_neg (by omega), if_neg (by omega), ht]
      exact hE _ (by omega)
    · have hg : getS (fsW pre H) (wnm pre af) = none := getS_nm (nm_apart (by omega) hfirst)
      rw [apS, if_neg (by omega), ht, appS, show (encF (encU af ++ x)).length = recL af x from recW_len _ _, if_pos (hE _ (by omega)), appF, hg]
      dsimp only
      rw [putS_end (nm_apart (pre := pre) (by omega) hfirst), fsW, fsW, List.map_append]
      simp [fileW, recsW]
    · rw [apG, if_pos hf, gsW, gsW, List.map_append]; rfl
  · rcases List.eq_nil_or_concat H with rfl | ⟨A, g, rfl⟩
    · exact absurd rfl hf
    rw [List.concat_eq_append] at *
    have hG : gsW (A ++ [g]) = gsW A ++ [g.1] := by simp [gsW]
    have hgm : g ∈ A ++ [g] := by simp
    have hs : ¬ 1024 ≤ g.1.size := by
      intro hc
      apply hf
      rw [freshW, lastW, hG]; simp [hc]
    have ht : takesW (gsW (A ++ [g])) af = g.1.first := by
      rw [takesW, lastW, hG]; simp [hs]
    have hnx : g.1.next = af := h.ch.last g.1 (by rw [hG]; simp)
    have hl2 : g.1.first + g.1.es.length = af := hnx
    have hff := hfirst g hgm
    have hA : ∀ q ∈ A, q.1.first < g.1.first := by
      have := h.ch.rises
      rw [hG, List.pairwise_append] at this
      intro q hq
      exact this.2.2 q.1 (List.mem_map.2 ⟨q, hq, rfl⟩) g.1 (by simp)
    refine ⟨A ++ [(⟨g.1.first, g.1.es ++ [x], true⟩, g.2)], ?_, ?_, ?_, ?_⟩
    · refine ⟨?_, ?_, ?_, ?_, ?_, h.one, by omega, hw⟩
      · have hc := h.ch
        rw [hG] at hc
        obtain ⟨m, hA', hB'⟩ := hc.split
        rw [gsW, List.map_append]
        refine ChG.app hA' (fun q hq => hne0 q (by rw [hG]; exact List.mem_append_left _ hq)) ⟨hB'.1, fun hc => absurd rfl hc, ?_⟩
        show g.1.first + (g.1.es ++ [x]).length = af + 1
        rw [List.length_append, List.length_singleton]; omega
      · intro q hq
        rcases List.mem_append.1 hq with hq | hq
        · exact h.ne q (List.mem_append_left _ hq)
        · rw [List.mem_singleton.1 hq]; simp
      · have := h.flat
        rw [hG, flatG_app] at this
        rw [gsW, List.map_append, flatG_app, ← this]
        simp [flatG, gsW]
      · rw [List.dropLast_concat]
        intro q hq
        exact h.big q (by rw [List.dropLast_concat]; exact hq)
      · intro q hq
        rcases List.mem_append.1 hq with hq | hq
        · exact h.la q (List.mem_append_left _ hq)
        · rw [List.mem_singleton.1 hq]
          obtain ⟨l1, l2, l3⟩ := h.la g hgm
          refine ⟨?_, .inl rfl, ?_⟩
          · show g.2 ≤ lenW g.1.first (g.1.es ++ [x])
            rw [lenW_snoc]
            have : g.1.size = lenW g.1.first g.1.es := rfl
            omega
          · show lenW g.1.first ((g.1.es ++ [x]).take (k + 1 - g.1.first)) ≤ g.2
            rw [List.take_append_of_le_length (by omega)]
            exact l3
    · rw [apE, if_neg (by omega), if_neg (by omega), ht]
      exact hE _ (by omega)
    · have hS : fsW pre (A ++ [g]) = fsW pre A ++ [fileW pre g] := by simp [fsW]
      have hg : getS (fsW pre (A ++ [g])) (wnm pre g.1.first) = some (fileW pre g) := by
        rw [hS]
        exact getS_at (nm_apart (by omega) hA) rfl
      rw [apS, if_neg (by omega), ht, appS, show (encF (encU af ++ x)).length = recL af x from recW_len _ _, if_pos (hE _ (by omega)), appF, hg]
      dsimp only
      have hput : putS (fsW pre A ++ [fileW pre g]) ⟨wnm pre g.1.first, (fileW pre g).d ++ encF (encU af ++ x), (fileW pre g).la⟩ = fsW pre A ++ [⟨wnm pre g.1.first, (fileW pre g).d ++ encF (encU af ++ x), (fileW pre g).la⟩] :=
        putS_at (A := fsW pre A) (C := []) (nm_apart (pre := pre) (n := g.1.first) (by omega) hA) rfl
      rw [hS, hput]
      simp [fsW, fileW, recsW_snoc, hl2]
    · rw [apG, if_neg hf, hG, putW_snoc]; simp [gsW]
end Go.Proofs.YtjafamiaahabgaaDoor
namespace Go.Proofs.YtjafamiaahabgaaDoor
open Go.RowKit Go.Lib
set_option linter.unusedVariables false
set_option linter.unusedSimpArgs false
set_option maxRecDepth 100000

def synW (g : Wg × Nat) : Wg × Nat := (g.1.clean, g.1.size)
theorem gsW_app (A B : List (Wg × Nat)) : gsW (A ++ B) = gsW A ++ gsW B := List.map_append
theorem fsW_app (pre : ByteArray) (A B : List (Wg × Nat)) : fsW pre (A ++ B) = fsW pre A ++ fsW pre B := List.map_append
theorem get_mid {pre : ByteArray} {A : List (Wg × Nat)} {g : Wg × Nat} {C : List Fl} (hn : g.1.first ≤ 99999999) (hA : ∀ q ∈ A, q.1.first < g.1.first) : getS (fsW pre A ++ fileW pre g :: C) (wnm pre g.1.first) = some (fileW pre g) :=
  getS_at (A := fsW pre A) (nm_apart hn hA) rfl
theorem put_mid {pre : ByteArray} {A : List (Wg × Nat)} {g : Wg × Nat} {C : List Fl} (hn : g.1.first ≤ 99999999) (hA : ∀ q ∈ A, q.1.first < g.1.first) (d : List UInt8) (la : Nat) : putS (fsW pre A ++ fileW pre g :: C) ⟨wnm pre g.1.first, d, la⟩ = fsW pre A ++ ⟨wnm pre g.1.first, d, la⟩ :: C :=
  putS_at (A := fsW pre A) (nm_apart (n := g.1.first) hn hA) rfl
theorem sync_fold (pre : ByteArray) : ∀ (B A : List (Wg × Nat)), (A ++ B).Pairwise (fun a b => a.1.first < b.1.first) → (∀ g ∈ B, g.1.first ≤ 99999999 ∧ (g.1.dirty = true ∨ g.2 = g.1.size)) →
    (gsW B).foldl (syncStep pre) (fsW pre (A ++ B)) = fsW pre (A ++ B.map synW)
  | [], A, _, _ => by simp [gsW]
  | g :: B, A, hr, hb => by
    have hg := hb g (List.mem_cons_self ..)
    have hA : ∀ q ∈ A, q.1.first < g.1.first := fun q hq => (List.pairwise_append.1 hr).2.2 q hq g (List.mem_cons_self ..)
    have hst : syncStep pre (fsW pre (A ++ g :: B)) g.1 = fsW pre ((A ++ [synW g]) ++ B) := by
      have e1 : fsW pre (A ++ g :: B) = fsW pre A ++ fileW pre g :: fsW pre B := by rw [fsW_app]; rfl
      have e2 : fsW pre ((A ++ [synW g]) ++ B) = fsW pre A ++ fileW pre (synW g) :: fsW pre B := by rw [fsW_app, fsW_app]; simp [fsW]
      have e3 : fileW pre (synW g) = ⟨wnm pre g.1.first, recsW g.1.first g.1.es, g.1.size⟩ := rfl
      rw [syncStep, e1, e2, e3]
      split
      · rw [syncS, get_mid hg.1 hA]
        dsimp only
        rw [put_mid hg.1 hA]
        rw [show (fileW pre g).d.length = g.1.size from recsW_len _ _]
        rfl
      · rename_i hd
        rcases hg.2 with h | h
        · exact absurd h hd
        · rw [← h]; rfl
    rw [gsW, List.map_cons, List.foldl_cons, hst]
    have ih := sync_fold pre B (A ++ [synW g]) (by
      have e : ((A ++ [synW g]) ++ B).map (fun q => q.1.first) = (A ++ g :: B).map (fun q => q.1.first) := by simp [synW, Wg.clean]
      have h1 : ((A ++ g :: B).map fun q => q.1.first).Pairwise (· < ·) := List.pairwise_map.2 hr
      rw [← e] at h1
      exact List.pairwise_map.1 h1) (fun q hq => hb q (List.mem_cons_of_mem _ hq))
    rw [gsW] at ih
    rw [ih]
    simp [synW]
theorem Lone.rise {n k af : Nat} {H : List (Wg × Nat)} {xs : List (List UInt8)} (h : Lone n k H af xs) : H.Pairwise fun a b => a.1.first < b.1.first := by
  have := h.ch.rises
  rw [gsW, List.pairwise_map] at this
  exact this
theorem gsW_syn (H : List (Wg × Nat)) : gsW (H.map synW) = (gsW H).map Wg.clean := by simp [gsW, synW, Function.comp_def]
theorem ChG.clean : ∀ {G : List Wg} {n af : Nat}, ChG n G af → ChG n (G.map Wg.clean) af
  | [], _, _, h => h
  | g :: gs, n, af, ⟨h1, h2, h3⟩ => ⟨h1, fun hc => h2 (by intro h; exact hc (by rw [h]; rfl)), ChG.clean h3⟩
theorem flatG_clean (G : List Wg) : flatG (G.map Wg.clean) = flatG G := by rw [flatG, flatG, List.flatMap_map]; rfl
/-- behind a Sync all lasts -/
theorem Lone.sync {pre : ByteArray} {n k af : Nat} {H : List (Wg × Nat)} {xs : List (List UInt8)} (k' : Nat) (h : Lone n k H af xs) :
    Lone n k' (H.map synW) af xs ∧ syncG pre (fsW pre H) (gsW H) = fsW pre (H.map synW) ∧ (gsW H).map Wg.clean = gsW (H.map synW) ∧ ∀ g ∈ H.map synW, g.2 = g.1.size := by
  have hs := sync_fold pre H [] h.rise (fun g hg => ⟨(h.hfs g.1 (List.mem_map.2 ⟨g, hg, rfl⟩)).1, (h.la g hg).2.1⟩)
  have hall : ∀ g ∈ H.map synW, g.2 = g.1.size := fun g hg => by
    obtain ⟨q, _, rfl⟩ := List.mem_map.1 hg; rfl
  refine ⟨⟨?_, ?_, ?_, ?_, ?_, h.one, h.lim, h.wt⟩, hs, (gsW_syn H).symm, hall⟩
  · rw [gsW_syn]; exact h.ch.clean
  · intro g hg
    obtain ⟨q, hq, rfl⟩ := List.mem_map.1 hg
    exact h.ne q hq
  · rw [gsW_syn, flatG_clean]; exact h.flat
  · intro g hg
    rw [← List.map_dropLast] at hg
    obtain ⟨q, hq, rfl⟩ := List.mem_map.1 hg
    exact h.big q hq
  · intro g hg
    have he := hall g hg
    exact ⟨by omega, .inr he, by rw [he]; exact lenW_take _ _ _⟩
/-- a beginning, an end of a log -/
theorem Lone.tail {n k af : Nat} {A B : List (Wg × Nat)} {xs : List (List UInt8)} (h : Lone n k (A ++ B) af xs) : ∃ m, n ≤ m ∧ Lone m k B af (xs.drop (m - n)) ∧ (∀ g ∈ A, g.1.next ≤ m) ∧ (A = [] → m = n) := by
  have hc := h.ch
  rw [gsW_app] at hc
  obtain ⟨m, hA, hB⟩ := hc.split
  have hm := hA.ge
  have h1 := h.one
  have hfl := h.flat
  rw [gsW_app, flatG_app] at hfl
  have hlen := hA.af
  have hdrop : xs.drop (m - n) = flatG (gsW B) := by rw [← hfl, List.drop_left' (by omega)]
  have hwt : wtW xs = wtW (flatG (gsW A)) + wtW (flatG (gsW B)) := by rw [← hfl, wtW_app]
  refine ⟨m, hm, ⟨hB, fun g hg => h.ne g (List.mem_append_right _ hg), hdrop.symm, fun g hg => ?_, fun g hg => h.la g (List.mem_append_right _ hg), by omega, h.lim, by rw [hdrop]; have := h.wt; omega⟩, fun g hg => (hA.mem g.1 (List.mem_map.2 ⟨g, hg, rfl⟩)).2, fun he => ?_⟩
  · refine h.big g ?_
    cases B with
    | nil => simp at hg
    | cons b B =>
      rw [List.dropLast_append_of_ne_nil (by simp)]
      exact List.mem_append_right _ hg
  · subst he
    exact (show n = m from hA).symm
/-- a Drop -/
theorem drop_fold (pre : ByteArray) (i : Int) (af : Nat) : ∀ (H : List (Wg × Nat)), ∃ A B, H = A ++ B ∧ dropR pre i af (gsW H) (fsW pre H) = (gsW B, fsW pre B) ∧ (∀ g ∈ A, (g.1.next : Int) ≤ i) ∧ (A ≠ [] → B = [] → i = (af : Int))
  | [] => ⟨[], [], rfl, rfl, by simp, by simp⟩
  | g :: H => by
    have hd : dropR pre i af (gsW (g :: H)) (fsW pre (g :: H)) = if i < (g.1.next : Nat) ∨ (gsW H = [] ∧ i ≠ (af : Int)) then (gsW (g :: H), fsW pre (g :: H)) else dropR pre i af (gsW H) (delS (fsW pre (g :: H)) (wnm pre g.1.first)) := rfl
    have he : delS (fsW pre (g :: H)) (wnm pre g.1.first) = fsW pre H := delS_at (A := []) (by simp) rfl
    rw [hd, he]
    by_cases hc : i < (g.1.next : Nat) ∨ (gsW H = [] ∧ i ≠ (af : Int))
    · rw [if_pos hc]
      exact ⟨[], g :: H, rfl, rfl, by simp, by simp⟩
    · rw [if_neg hc]
      obtain ⟨A, B, h1, h2, h3, h4⟩ := drop_fold pre i af H
      refine ⟨g :: A, B, by rw [h1]; rfl, h2, fun q hq => ?_, fun _ hB => ?_⟩
      · rcases List.mem_cons.1 hq with rfl | hq
        · omega
        · exact h3 q hq
      · by_cases hA : A = []
        · subst hA; subst hB
          have : gsW H = [] := by rw [h1]; rfl
          refine Decidable.byContradiction fun hne => hc (.inr ⟨this, hne⟩)
        · exact h4 hA hB
theorem low_ch {G : List Wg} {n af : Nat} (h : ChG n G af) : lowW G af = n := by
  cases G with
  | nil => exact (show n = af from h).symm
  | cons g gs => exact h.1
theorem Lone.drop {pre : ByteArray} {n k af : Nat} {H : List (Wg × Nat)} {xs : List (List UInt8)} {i : Int} (h : Lone n k H af xs) (hi : (n : Int) ≤ i ∧ i ≤ (af : Int)) :
    ∃ H' m, n ≤ m ∧ (m : Int) ≤ i ∧ Lone m k H' af (xs.drop (m - n)) ∧ mayW (gsW H) af i = true ∧ dropR pre i af (gsW H) (fsW pre H) = (gsW H', fsW pre H') := by
  obtain ⟨A, B, h1, h2, h3, h4⟩ := drop_fold pre i af H
  subst h1
  obtain ⟨m, hm, hB, hA, hn⟩ := h.tail
  refine ⟨B, m, hm, ?_, hB, ?_, h2⟩
  · rcases List.eq_nil_or_concat A with rfl | ⟨A, g, rfl⟩
    · rw [hn rfl]; exact hi.1
    · have hg := h3 g (by simp)
      rw [List.concat_eq_append] at *
      by_cases hb : B = []
      · have := hB.ch
        subst hb
        have : m = af := this
        rw [this]
        have := h4 (by simp) rfl
        omega
      · have hc := h.ch
        rw [gsW_app, gsW_app] at hc
        obtain ⟨m1, hc1, hc2⟩ := hc.split
        have e1 := hc1.last g.1 (by simp [gsW])
        have e2 : m1 = m := by
          cases B with
          | nil => exact absurd rfl hb
          | cons b B => exact hc2.1.symm.trans hB.ch.1
        omega
  · rw [mayW, low_ch h.ch]
    simpa using hi
theorem dropWhile_spec {α : Type} (p : α → Bool) : ∀ l : List α, ∃ t, l = t ++ l.dropWhile p ∧ (∀ x ∈ t, p x = true) ∧ ∀ y r, l.dropWhile p = y :: r → p y = false
  | [] => ⟨[], rfl, by simp, by simp⟩
  | x :: l => by
    rw [List.dropWhile_cons]
    by_cases hx : p x = true
    · rw [if_pos hx]
      obtain ⟨t, h1, h2, h3⟩ := dropWhile_spec p l
      refine ⟨x :: t, by rw [List.cons_append, ← h1], fun y hy => ?_, h3⟩
      rcases List.mem_cons.1 hy with rfl | hy
      · exact hx
      · exact h2 y hy
    · rw [if_neg hx]
      refine ⟨[], rfl, by simp, fun y r h => ?_⟩
      injection h with h1 h2
      rw [← h1]; simpa using hx
/-- a Cut, from behind -/
theorem cut_fold (pre : ByteArray) (i : Int) : ∀ (R : List (Wg × Nat)), (R.reverse).Pairwise (fun a b => a.1.first < b.1.first) → (∀ g ∈ R, g.1.first ≤ 99999999) →
    cutRev pre i (gsW R) (fsW pre R.reverse) = (gsW (R.dropWhile fun g => decide (i ≤ (g.1.first : Int))), fsW pre (R.dropWhile fun g => decide (i ≤ (g.1.first : Int))).reverse)
  | [], _, _ => rfl
  | g :: R, hr, hf => by
    rw [List.reverse_cons] at hr
    have hA : ∀ q ∈ R.reverse, q.1.first < g.1.first := fun q hq => (List.pairwise_append.1 hr).2.2 q hq g (List.mem_singleton.2 rfl)
    have hd : cutRev pre i (gsW (g :: R)) (fsW pre (g :: R).reverse) = if i ≤ (g.1.first : Int) then cutRev pre i (gsW R) (delS (fsW pre (g :: R).reverse) (wnm pre g.1.first)) else (gsW (g :: R), fsW pre (g :: R).reverse) := rfl
    have he : delS (fsW pre (g :: R).reverse) (wnm pre g.1.first) = fsW pre R.reverse := by
      rw [List.reverse_cons, fsW_app]
      have := delS_at (A := fsW pre R.reverse) (C := []) (f := fileW pre g) (nm := wnm pre g.1.first) (nm_apart (hf g (List.mem_cons_self ..)) hA) rfl
      rw [List.append_nil] at this
      exact this
    rw [hd, he, List.dropWhile_cons]
    by_cases hc : i ≤ (g.1.first : Int)
    · rw [if_pos hc, if_pos (decide_eq_true hc)]
      exact cut_fold pre i R (List.pairwise_append.1 hr).1 (fun q hq => hf q (List.mem_cons_of_mem _ hq))
    · rw [if_neg hc, if_neg (by simpa using hc)]
theorem Lone.cut {pre : ByteArray} {n af : Nat} {H : List (Wg × Nat)} {xs : List (List UInt8)} {i : Nat} (h : Lone n 0 H af xs) (hi : n ≤ i ∧ i ≤ af) :
    ∃ H', Lone n 0 H' i (xs.take (i - n)) ∧ mayW (gsW H) af (i : Int) = true ∧ cutG pre (i : Int) (gsW H) (fsW pre H) = (gsW H', fsW pre H') := by
  have hmay : mayW (gsW H) af (i : Int) = true := by
    rw [mayW, low_ch h.ch]; simp; omega
  obtain ⟨R, rfl⟩ : ∃ R, H = R.reverse := ⟨H.reverse, by simp⟩
  have hcf := cut_fold pre (i : Int) R h.rise (fun g hg => (h.hfs g.1 (List.mem_map.2 ⟨g, by simpa using hg, rfl⟩)).1)
  obtain ⟨T, h1, h2, h3⟩ := dropWhile_spec (fun g : Wg × Nat => decide ((i : Int) ≤ (g.1.first : Int))) R
  generalize hR' : R.dropWhile (fun g : Wg × Nat => decide ((i : Int) ≤ (g.1.first : Int))) = R' at *
  have hrev : (gsW R.reverse).reverse = gsW R := by simp [gsW]
  rw [cutG, hrev, hcf]
  have hone := h.one
  have hlim := h.lim
  have hwt : ∀ j, wtW (xs.take j) ≤ 20010 := fun j => by
    have := wtW_app (xs.take j) (xs.drop j)
    rw [List.take_append_drop] at this
    have := h.wt
    omega
  have hsp : R.reverse = R'.reverse ++ T.reverse := by rw [h1, List.reverse_append]
  have hc := h.ch
  rw [hsp, gsW_app] at hc
  obtain ⟨m, hA, hB⟩ := hc.split
  have hfl := h.flat
  rw [hsp, gsW_app, flatG_app] at hfl
  have hml := hA.af
  have him : i ≤ m := by
    cases hT : T.reverse with
    | nil =>
      rw [hT] at hB
      have : m = af := hB
      omega
    | cons t T' =>
      rw [hT] at hB
      have e1 : t.1.first = m := hB.1
      have e2 := h2 t (by rw [← List.mem_reverse, hT]; exact List.mem_cons_self ..)
      simp only [decide_eq_true_eq] at e2
      omega
  cases R' with
  | nil =>
    have hm : n = m := hA
    obtain rfl : i = n := by omega
    refine ⟨[], ⟨rfl, by simp, by simp [gsW, flatG], by simp, by simp, hone, by omega, hwt _⟩, hmay, rfl⟩
  | cons g R' =>
    have hgi := h3 g R' rfl
    simp only [decide_eq_false_iff_not] at hgi
    have hgi : g.1.first < i := by omega
    have hrc : (g :: R').reverse = R'.reverse ++ [g] := List.reverse_cons
    have hgm : g ∈ R.reverse := by rw [hsp, hrc]; simp
    have hnx : g.1.next = m := hA.last g.1 (by rw [hrc, gsW_app]; simp [gsW])
    have hn2 : g.1.first + g.1.es.length = m := hnx
    have hlt : ∀ q ∈ R'.reverse, q.1.first < g.1.first := fun q hq => by
      have := h.rise
      rw [hsp, hrc] at this
      exact (List.pairwise_append.1 (List.pairwise_append.1 this).1).2.2 q hq g (List.mem_singleton.2 rfl)
    have hgf : g.1.first ≤ 99999999 := (h.hfs g.1 (List.mem_map.2 ⟨g, hgm, rfl⟩)).1
    have hsub : ∀ q ∈ R'.reverse, q ∈ R.reverse := fun q hq => by rw [hsp, hrc]; simp only [List.mem_append]; exact .inl (.inl hq)
    have hdl : ∀ q ∈ R'.reverse, 1024 ≤ q.1.size := fun q hq => h.big q (by
      rw [hsp, hrc]
      by_cases hT : T = []
      · subst hT
        rw [List.reverse_nil, List.append_nil, List.dropLast_concat]; exact hq
      · rw [List.dropLast_append_of_ne_nil (by simpa using hT)]
        simp only [List.mem_append]; exact .inl (.inl hq))
    rw [hrc, gsW_app] at hA
    obtain ⟨m1, hA1, hA2⟩ := hA.split
    have hm1 : g.1.first = m1 := hA2.1
    have hl1 := hA1.af
    have hcf2 : cutFin pre (i : Int) (gsW (g :: R'), fsW pre (g :: R').reverse) = if (i : Int) < (g.1.next : Nat) then ((g.1.cut i :: gsW R').reverse, cutS (fsW pre (g :: R').reverse) (wnm pre g.1.first) ((g.1.cut i).size : Int)) else ((gsW (g :: R')).reverse, fsW pre (g :: R').reverse) := rfl
    rw [hcf2]
    by_cases hlast : (i : Int) < (g.1.next : Nat)
    · rw [if_pos hlast]
      have hj : ((i : Int) - (g.1.first : Nat)).toNat = i - g.1.first := by omega
      have hcut : g.1.cut i = ⟨g.1.first, g.1.es.take (i - g.1.first), g.1.dirty⟩ := by rw [Wg.cut, hj]
      have hcs : (g.1.cut i).size = lenW g.1.first (g.1.es.take (i - g.1.first)) := by rw [hcut]; rfl
      have hle : (g.1.cut i).size ≤ g.1.size := by rw [hcs]; exact lenW_take _ _ _
      have hgl := h.la g hgm
      have hS : fsW pre (g :: R').reverse = fsW pre R'.reverse ++ [fileW pre g] := by rw [hrc, fsW_app]; rfl
      refine ⟨R'.reverse ++ [(g.1.cut i, min (g.1.cut i).size g.2)], ⟨?_, ?_, ?_, ?_, ?_, hone, by omega, hwt _⟩, hmay, ?_⟩
      · rw [gsW_app]
        refine ChG.app hA1 (fun q hq => ?_) ⟨by rw [hcut]; exact hm1, fun hc => absurd rfl hc, ?_⟩
        · obtain ⟨p, hp, rfl⟩ := List.mem_map.1 hq
          exact h.ne p (hsub p hp)
        · show (g.1.cut i).next = i
          rw [hcut, Wg.next]
          simp only [List.length_take]
          omega
      · intro q hq
        rcases List.mem_append.1 hq with hq | hq
        · exact h.ne q (hsub q hq)
        · rw [List.mem_singleton.1 hq, hcut]
          simp only
          intro h0
          have := congrArg List.length h0
          rw [List.length_take, List.length_nil] at this
          omega
      · rw [gsW_app, flatG_app, ← hfl, hrc, gsW_app, flatG_app, List.append_assoc]
        rw [List.take_append, List.take_of_length_le (show (flatG (gsW R'.reverse)).length ≤ i - n by omega)]
        congr 1
        have e1 : flatG (gsW [g]) = g.1.es := by simp [flatG, gsW]
        have e2 : flatG (gsW [(g.1.cut i, min (g.1.cut i).size g.2)]) = g.1.es.take (i - g.1.first) := by rw [hcut]; simp [flatG, gsW]
        rw [e1, e2, List.take_append_of_le_length (by omega)]
        congr 1; omega
      · rw [List.dropLast_concat]; exact hdl
      · intro q hq
        rcases List.mem_append.1 hq with hq | hq
        · exact h.la q (hsub q hq)
        · rw [List.mem_singleton.1 hq]
          refine ⟨Nat.min_le_left _ _, ?_, ?_⟩
          · rcases hgl.2.1 with hd | hd
            · exact .inl (by rw [hcut]; exact hd)
            · exact .inr (by dsimp only; omega)
          · have := (h.sz g.1 (List.mem_map.2 ⟨g, hgm, rfl⟩)).1
            rw [hcut]
            dsimp only
            rw [show 0 + 1 - g.1.first = 0 by omega, List.take_zero, lenW]
            exact Nat.zero_le _
      · have hlf : (fileW pre g).d.length = g.1.size := recsW_len _ _
        have hcu : cutS (fsW pre (g :: R').reverse) (wnm pre g.1.first) ((g.1.cut i).size : Int) = fsW pre (R'.reverse ++ [(g.1.cut i, min (g.1.cut i).size g.2)]) := by
          rw [hS, cutS, get_mid hgf hlt]
          dsimp only
          rw [if_neg (by rw [hlf]; omega), Int.toNat_natCast, put_mid hgf hlt, fsW_app]
          congr 1
          have e1 : (fileW pre g).d.take (g.1.cut i).size = recsW g.1.first (g.1.es.take (i - g.1.first)) := by rw [hcs]; exact recsW_take _ _ _
          rw [e1]
          have e2 : fsW pre [(g.1.cut i, min (g.1.cut i).size g.2)] = [⟨wnm pre (g.1.cut i).first, recsW (g.1.cut i).first (g.1.cut i).es, min (g.1.cut i).size g.2⟩] := rfl
          rw [e2, hcut]
          rfl
        rw [hcu]
        refine Prod.ext ?_ rfl
        show (g.1.cut i :: gsW R').reverse = _
        rw [gsW_app, List.reverse_cons]
        simp [gsW]
    · rw [if_neg hlast]
      obtain rfl : i = m := by omega
      refine ⟨(g :: R').reverse, ⟨?_, ?_, ?_, ?_, ?_, hone, by omega, hwt _⟩, hmay, ?_⟩
      · rw [hrc, gsW_app]
        exact ChG.app hA1 (fun q hq => by
          obtain ⟨p, hp, rfl⟩ := List.mem_map.1 hq
          exact h.ne p (hsub p hp)) hA2
      · intro q hq
        exact h.ne q (by rw [hsp]; exact List.mem_append_left _ hq)
      · rw [← hfl, List.take_left' (by omega)]
      · rw [hrc, List.dropLast_concat]; exact hdl
      · intro q hq
        exact h.la q (by rw [hsp]; exact List.mem_append_left _ hq)
      · simp [gsW]
end Go.Proofs.YtjafamiaahabgaaDoor
namespace Go.Proofs.YtjafamiaahabgaaDoor
open Go.RowKit Go.Lib
set_option linter.unusedVariables false
set_option linter.unusedSimpArgs false
set_option maxRecDepth 100000

theorem rdW_fuel : ∀ (f n : Nat) (b : List UInt8), b.length ≤ f → ∀ d, rdW (f + d) n b = rdW f n b
  | 0, n, b, h, d => by
    obtain rfl := List.eq_nil_of_length_eq_zero (show b.length = 0 by omega)
    rw [rdW_nil, rdW_nil]
  | f + 1, n, b, h, d => by
    rw [show f + 1 + d = (f + d) + 1 by omega]
    unfold rdW
    by_cases hc : b ≠ [] ∧ hdW n b = true
    · rw [if_pos hc, if_pos hc]
      have := recL_ge n (hdX b)
      rw [rdW_fuel f (n + 1) (b.drop (recL n (hdX b))) (by rw [List.length_drop]; omega) d]
    · rw [if_neg hc, if_neg hc]
/-- a segment's file of which c bytes are there -/
def tornF (pre : ByteArray) (c : Wg × Nat → Nat) (g : Wg × Nat) : Fl := ⟨wnm pre g.1.first, (recsW g.1.first g.1.es).take (c g), c g⟩
theorem torn_rd {n c : Nat} {xs : List (List UInt8)} (hx : ∀ x ∈ xs, x.length ≤ 1048566) (hn : n + xs.length < 18446744073709551616) (hc : c ≤ lenW n xs) :
    ∃ j, j ≤ xs.length ∧ rdW (((recsW n xs).take c).length + 1) n ((recsW n xs).take c) = (xs.take j, lenW n (xs.take j)) ∧ lenW n (xs.take j) ≤ c ∧ (c = lenW n xs → j = xs.length) ∧ (∀ i, lenW n (xs.take i) ≤ c → i ≤ xs.length → i ≤ j) := by
  obtain ⟨j, h1, h2, h3⟩ := rdW_take xs n c (((recsW n xs).take c).length + (1 + xs.length)) hx hn hc (by omega)
  rw [rdW_fuel _ _ _ (Nat.le_refl _)] at h2
  exact ⟨j, h1, by rw [rdW_fuel _ _ _ (Nat.le_refl _)]; exact h2, h3⟩
theorem open_false {pre : ByteArray} : ∀ (H : List (Wg × Nat)) (o : Ost), o.good = false → (∀ g ∈ H, g.1.first ≤ 99999999) →
    ((H.map fun g => wnm pre g.1.first).foldl (openStep pre) o).G = o.G ∧ ((H.map fun g => wnm pre g.1.first).foldl (openStep pre) o).af = o.af
  | [], o, _, _ => ⟨rfl, rfl⟩
  | g :: H, o, ho, hf => by
    have hs : openStep pre o (wnm pre g.1.first) = ⟨o.G, o.af, delS o.S (wnm pre g.1.first), false⟩ := by
      rw [openStep, numG_wnm (hf g (List.mem_cons_self ..))]
      simp [ho]
    rw [List.map_cons, List.foldl_cons, hs]
    exact open_false H _ rfl (fun q hq => hf q (List.mem_cons_of_mem _ hq))
theorem open_stop {pre : ByteArray} {H : List (Wg × Nat)} {o : Ost} (ho : o.good = true) (hG : o.G ≠ []) (hf : ∀ g ∈ H, g.1.first ≤ 99999999) (hn : ∀ g, H.head? = some g → g.1.first ≠ o.af) :
    ((H.map fun g => wnm pre g.1.first).foldl (openStep pre) o).G = o.G ∧ ((H.map fun g => wnm pre g.1.first).foldl (openStep pre) o).af = o.af := by
  cases H with
  | nil => exact ⟨rfl, rfl⟩
  | cons g H =>
    have hs : openStep pre o (wnm pre g.1.first) = ⟨o.G, o.af, delS o.S (wnm pre g.1.first), false⟩ := by
      rw [openStep, numG_wnm (hf g (List.mem_cons_self ..))]
      simp only [ho, if_true]
      rw [readG, if_pos (.inr ⟨hG, hn g rfl⟩)]
    rw [List.map_cons, List.foldl_cons, hs]
    exact open_false H _ rfl (fun q hq => hf q (List.mem_cons_of_mem _ hq))
/-- what is opened behind a crash is a beginning of what was there, and all that lasts -/
theorem open_torn {pre : ByteArray} {S : List Fl} {c : Wg × Nat → Nat} : ∀ (H : List (Wg × Nat)) (G : List Wg) (n e : Nat), ChG n (gsW H) e → 1 ≤ n → (∀ g ∈ H, g.1.es ≠ []) →
    (∀ g ∈ H, g.1.first ≤ 99999999 ∧ (∀ x ∈ g.1.es, x.length ≤ 1048566) ∧ g.1.es.length ≤ 1000000000 ∧ c g ≤ g.1.size ∧ getS S (wnm pre g.1.first) = some (tornF pre c g)) →
    ∃ G2 m, ((H.map fun g => wnm pre g.1.first).foldl (openStep pre) ⟨G, n, S, true⟩).G = G ++ G2 ∧ ((H.map fun g => wnm pre g.1.first).foldl (openStep pre) ⟨G, n, S, true⟩).af = n + m ∧ ChG n G2 (n + m) ∧ flatG G2 = (flatG (gsW H)).take m ∧ m ≤ (flatG (gsW H)).length ∧
      (∀ g ∈ G2, 1 ≤ g.first ∧ g.first ≤ 99999999) ∧ ∀ k, (∀ g ∈ H, lenW g.1.first (g.1.es.take (k + 1 - g.1.first)) ≤ c g) → k + 1 ≤ n + m ∨ e ≤ n + m
  | [], G, n, e, hc, _, _, _ => ⟨[], 0, by simp, rfl, rfl, rfl, by simp, by simp, fun k _ => .inr (by have : n = e := hc; omega)⟩
  | g :: H, G, n, e, hc, h1, hne, hf => by
    obtain ⟨hg1, hg2, hg3⟩ := hc
    have hg1 : g.1.first = n := hg1
    have hg3 : ChG g.1.next (gsW H) e := hg3
    obtain ⟨k1, k2, k3, k4, k5⟩ := hf g (List.mem_cons_self ..)
    have hge := hne g (List.mem_cons_self ..)
    have hpos := List.length_pos_iff.2 hge
    have hfs : ∀ q ∈ H, q.1.first ≤ 99999999 := fun q hq => (hf q (List.mem_cons_of_mem _ hq)).1
    have hnx : g.1.next = g.1.first + g.1.es.length := rfl
    have hszd : g.1.size = lenW g.1.first g.1.es := rfl
    have hD : fileD S (wnm pre g.1.first) = (recsW g.1.first g.1.es).take (c g) := by rw [fileD, k5]; rfl
    have hDl : ((recsW g.1.first g.1.es).take (c g)).length = c g := by rw [List.length_take, recsW_len]; exact Nat.min_eq_left k4
    obtain ⟨j, j1, j2, j3, j4, j5⟩ := torn_rd (n := g.1.first) (c := c g) k2 (by omega) k4
    rw [List.map_cons, List.foldl_cons]
    have hst : openStep pre ⟨G, n, S, true⟩ (wnm pre g.1.first) = if lenW g.1.first (g.1.es.take j) = c g then ⟨G ++ [⟨g.1.first, g.1.es.take j, true⟩], g.1.first + (g.1.es.take j).length, S, true⟩ else
        if lenW g.1.first (g.1.es.take j) = 0 then ⟨G, n, delS S (wnm pre g.1.first), false⟩ else
        ⟨G ++ [⟨g.1.first, g.1.es.take j, true⟩], g.1.first + (g.1.es.take j).length, cutS S (wnm pre g.1.first) (lenW g.1.first (g.1.es.take j) : Int), false⟩ := by
      rw [openStep, numG_wnm k1]
      simp only [if_true]
      rw [readG, if_neg (by
        rintro (h | ⟨_, h⟩)
        · omega
        · exact h hg1)]
      dsimp only
      rw [hD, j2, hDl]
    rw [hst]
    have hjl : (g.1.es.take j).length = j := by rw [List.length_take]; omega
    have hflat : ∀ m, m ≤ g.1.es.length → (flatG (gsW (g :: H))).take m = g.1.es.take m := fun m hm => by
      show (flatG (g.1 :: gsW H)).take m = _
      rw [flatG_cons, List.take_append_of_le_length hm]
    have hfll : (flatG (gsW (g :: H))).length = g.1.es.length + (flatG (gsW H)).length := by
      show (flatG (g.1 :: gsW H)).length = _
      rw [flatG_cons, List.length_append]
    have hkept : j < g.1.es.length → ∀ k, (∀ q ∈ g :: H, lenW q.1.first (q.1.es.take (k + 1 - q.1.first)) ≤ c q) → k + 1 ≤ n + j := fun hj k hk => by
      have h2 := hk g (List.mem_cons_self ..)
      by_cases hkk : k + 1 - g.1.first ≤ g.1.es.length
      · have := j5 _ h2 hkk
        omega
      · rw [List.take_of_length_le (by omega)] at h2
        have := j5 g.1.es.length (by rw [List.take_length]; exact h2) (Nat.le_refl _)
        omega
    have hone : ∀ q ∈ [(⟨g.1.first, g.1.es.take j, true⟩ : Wg)], 1 ≤ q.first ∧ q.first ≤ 99999999 := fun q hq => by
      obtain rfl := List.mem_singleton.1 hq
      show 1 ≤ g.1.first ∧ g.1.first ≤ 99999999
      omega
    by_cases hw : lenW g.1.first (g.1.es.take j) = c g
    · rw [if_pos hw, hjl]
      by_cases hj : j = g.1.es.length
      · have hE : g.1.first + j = g.1.next := by omega
        rw [hE]
        obtain ⟨G2, m, q1, q2, q3, q4, q5, q6, q7⟩ := open_torn (S := S) (c := c) H (G ++ [⟨g.1.first, g.1.es.take j, true⟩]) g.1.next e hg3 (by omega) (fun q hq => hne q (List.mem_cons_of_mem _ hq)) (fun q hq => hf q (List.mem_cons_of_mem _ hq))
        refine ⟨⟨g.1.first, g.1.es.take j, true⟩ :: G2, g.1.es.length + m, by rw [q1]; simp, by rw [q2]; omega, ⟨hg1, fun _ => ?_, ?_⟩, ?_, by omega, fun q hq => ?_, fun k hk => ?_⟩
        · rw [hj, List.take_length]; exact hge
        · show ChG (g.1.first + (g.1.es.take j).length) G2 _
          rw [hjl, hE, show n + (g.1.es.length + m) = g.1.next + m by omega]
          exact q3
        · rw [flatG_cons, q4]
          show _ = (flatG (g.1 :: gsW H)).take _
          rw [flatG_cons, List.take_append, hj, List.take_length, List.take_of_length_le (l := g.1.es) (by omega), Nat.add_sub_cancel_left]
        · rcases List.mem_cons.1 hq with rfl | hq
          · exact hone _ (List.mem_singleton.2 rfl)
          · exact q6 q hq
        · have := q7 k (fun q hq => hk q (List.mem_cons_of_mem _ hq))
          omega
      · have hjlt : j < g.1.es.length := by omega
        obtain ⟨s1, s2⟩ := open_stop (pre := pre) (H := H) (o := ⟨G ++ [⟨g.1.first, g.1.es.take j, true⟩], g.1.first + j, S, true⟩) rfl (by simp) hfs (fun q hq => by
          cases H with
          | nil => simp at hq
          | cons q' H' =>
            simp only [List.head?_cons, Option.some.injEq] at hq
            subst hq
            have : q'.1.first = g.1.next := hg3.1
            dsimp only
            omega)
        refine ⟨[⟨g.1.first, g.1.es.take j, true⟩], j, s1, by rw [s2]; show g.1.first + j = n + j; omega, ⟨hg1, fun h => absurd rfl h, ?_⟩, ?_, by omega, hone, fun k hk => .inl (hkept hjlt k hk)⟩
        · show g.1.first + (g.1.es.take j).length = n + j
          omega
        · rw [hflat j j1]; simp [flatG]
    · rw [if_neg hw]
      have hjlt : j < g.1.es.length := by
        refine Nat.lt_of_le_of_ne j1 fun h => hw ?_
        rw [h, List.take_length] at j3 ⊢
        omega
      by_cases h0 : lenW g.1.first (g.1.es.take j) = 0
      · rw [if_pos h0]
        obtain ⟨s1, s2⟩ := open_false (pre := pre) H ⟨G, n, delS S (wnm pre g.1.first), false⟩ rfl hfs
        have hj0 : j = 0 := by
          have := lenW_ge g.1.first (g.1.es.take j)
          omega
        subst hj0
        exact ⟨[], 0, by rw [s1]; simp, s2, rfl, rfl, Nat.zero_le _, by simp, fun k hk => .inl (hkept hjlt k hk)⟩
      · rw [if_neg h0, hjl]
        obtain ⟨s1, s2⟩ := open_false (pre := pre) H ⟨G ++ [⟨g.1.first, g.1.es.take j, true⟩], g.1.first + j, cutS S (wnm pre g.1.first) (lenW g.1.first (g.1.es.take j) : Int), false⟩ rfl hfs
        refine ⟨[⟨g.1.first, g.1.es.take j, true⟩], j, s1, by rw [s2]; show g.1.first + j = n + j; omega, ⟨hg1, fun h => absurd rfl h, ?_⟩, ?_, by omega, hone, fun k hk => .inl (hkept hjlt k hk)⟩
        · show g.1.first + (g.1.es.take j).length = n + j
          omega
        · rw [hflat j j1]; simp [flatG]
theorem getS_F {pre : ByteArray} {F : Wg × Nat → Fl} (hF : ∀ g, (F g).nm = wnm pre g.1.first) : ∀ {H : List (Wg × Nat)} {g : Wg × Nat}, (∀ q ∈ H, q.1.first ≤ 99999999) → (H.Pairwise fun a b => a.1.first < b.1.first) → g ∈ H → getS (H.map F) (wnm pre g.1.first) = some (F g)
  | q :: H, g, hf, hr, hg => by
    rw [List.map_cons, getS, hF]
    rcases List.mem_cons.1 hg with rfl | hg
    · rw [if_pos rfl]
    · have h1 := (List.pairwise_cons.1 hr).1 g hg
      rw [if_neg]
      · exact getS_F hF (fun x hx => hf x (List.mem_cons_of_mem _ hx)) (List.pairwise_cons.1 hr).2 hg
      · intro h
        have := wnm_inj (hf q (List.mem_cons_self ..)) (hf g (List.mem_cons_of_mem _ hg)) h
        omega
def keptC (S : List Fl) (pre : ByteArray) (draw : Int) (g : Wg × Nat) : Nat := stays draw (rank S (fileW pre g)) (fileW pre g)
theorem crash_W (pre : ByteArray) (draw : Int) (H : List (Wg × Nat)) : crashS (fsW pre H) draw = H.map (tornF pre (keptC (fsW pre H) pre draw)) := by
  show (H.map (fileW pre)).map (fun f => crash1 draw (rank (fsW pre H) f) f) = _
  rw [List.map_map]
  rfl
/-- a log behind a crash, opened -/
theorem Lone.crash {pre : ByteArray} {k af : Nat} {H : List (Wg × Nat)} {xs : List (List UInt8)} (draw : Int) (h : Lone 1 k H af xs) :
    ∃ m, ChG 1 (openG pre (crashS (fsW pre H) draw)).G (1 + m) ∧ (openG pre (crashS (fsW pre H) draw)).af = 1 + m ∧ flatG (openG pre (crashS (fsW pre H) draw)).G = xs.take m ∧ m ≤ xs.length ∧ (k ≤ m ∨ xs.length ≤ m) ∧ ∀ g ∈ (openG pre (crashS (fsW pre H) draw)).G, 1 ≤ g.first ∧ g.first ≤ 99999999 := by
  rw [crash_W]
  generalize hc : keptC (fsW pre H) pre draw = c
  have hcl : ∀ g ∈ H, g.2 ≤ c g ∧ c g ≤ g.1.size := fun g hg => by
    have hl : (fileW pre g).d.length = g.1.size := recsW_len _ _
    have := (stays_le (draw := draw) (i := rank (fsW pre H) (fileW pre g)) (f := fileW pre g) (by rw [hl]; exact (h.la g hg).1))
    rw [hl] at this
    rw [← hc]
    exact this
  have hff : ∀ q ∈ H, q.1.first ≤ 99999999 := fun q hq => (h.hfs q.1 (List.mem_map.2 ⟨q, hq, rfl⟩)).1
  have hn : names (H.map (tornF pre c)) = H.map fun g => nmB (wnm pre g.1.first) := by
    rw [← names_W (pre := pre) hff (h.rise.imp fun h => Nat.le_of_lt h), names, names, List.map_map, List.map_map]
    rfl
  rw [openG, hn, List.map_map]
  have he : ((fun x => (⟨x.toArray⟩ : ByteArray)) ∘ fun g : Wg × Nat => nmB (wnm pre g.1.first)) = fun g => wnm pre g.1.first := by
    funext q
    simp [nmB]
  rw [he]
  obtain ⟨G2, m, q1, q2, q3, q4, q5, q6, q7⟩ := open_torn (pre := pre) (S := H.map (tornF pre c)) (c := c) H [] 1 af h.ch (by decide) h.ne (fun g hg => ⟨hff g hg, (h.entry g hg).1, (h.entry g hg).2, (hcl g hg).2, getS_F (fun _ => rfl) hff h.rise hg⟩)
  rw [List.nil_append] at q1
  rw [q1, q2, h.flat.symm]
  refine ⟨m, q3, rfl, q4, q5, ?_, q6⟩
  have hx := h.ch.af
  rcases q7 k (fun g hg => Nat.le_trans (h.la g hg).2.2 (hcl g hg).1) with h1 | h1
  · exact .inl (by omega)
  · exact .inr (by omega)
/-- a crash takes nothing of what lasts all -/
theorem crash_whole (pre : ByteArray) (draw : Int) (H : List (Wg × Nat)) (h : ∀ g ∈ H, g.2 = g.1.size) : crashS (fsW pre H) draw = fsW pre H := by
  rw [crash_W, fsW]
  refine List.map_congr_left fun g hg => ?_
  have hl : (fileW pre g).d.length = g.1.size := recsW_len _ _
  have e : (fileW pre g).la = g.1.size := h g hg
  have := (stays_le (draw := draw) (i := rank (fsW pre H) (fileW pre g)) (f := fileW pre g) (by omega))
  have hk : keptC (List.map (fileW pre) H) pre draw g = g.1.size := by
    show stays draw (rank (fsW pre H) (fileW pre g)) (fileW pre g) = _
    omega
  rw [tornF, hk, fileW, h g hg]
  congr 1
  exact List.take_of_length_le (by rw [recsW_len]; exact Nat.le_refl _)
theorem ChG.few : ∀ {G : List Wg} {n af : Nat}, ChG n G af → G.length ≤ (flatG G).length + 1
  | [], _, _, _ => by simp
  | [g], _, _, _ => by simp
  | g :: q :: gs, n, af, ⟨_, h2, h3⟩ => by
    have := ChG.few h3
    have := List.length_pos_iff.2 (h2 (by simp))
    rw [flatG_cons, List.length_append, List.length_cons]
    omega
theorem ChG.small : ∀ {G : List Wg} {n af : Nat}, ChG n G af → af ≤ 2101 → ∀ g ∈ G, g.first ≤ 2101 ∧ g.size ≤ wtW (flatG G)
  | q :: gs, n, af, ⟨h1, h2, h3⟩, ha, g, hg => by
    have h4 := h3.ge
    have h5 : q.next = q.first + q.es.length := rfl
    rw [flatG_cons, wtW_app]
    rcases List.mem_cons.1 hg with rfl | hg
    · have := lenW_le g.es g.first (by omega)
      have e : g.size = lenW g.first g.es := rfl
      omega
    · have := ChG.small h3 ha g hg
      omega
theorem ChG.hfs {G : List Wg} {n af : Nat} (h : ChG n G af) (ha : af ≤ 2101) (hw : wtW (flatG G) ≤ 20010) : (∀ g ∈ G, g.first ≤ 99999999 ∧ g.size ≤ 1073741824) ∧ G.length ≤ 1000000000 := by
  refine ⟨fun g hg => ?_, ?_⟩
  · have := h.small ha g hg
    omega
  · have h1 := h.few
    have h2 := wtW_len (flatG G)
    omega
end Go.Proofs.YtjafamiaahabgaaDoor
namespace Go.Proofs.YtjafamiaahabgaaDoor
open Go.RowKit Go.Lib
set_option linter.unusedVariables false
set_option linter.unusedSimpArgs false
set_option maxRecDepth 100000

theorem LgS.perm {B : Nat} {w0 w : World} {d l room : Nat} {pre : ByteArray} {S : List Fl} {G : List Wg} {af : Nat} {F F' : List Res} (h : LgS B w0 w d l pre room S G af F) (hp : F.Perm F') : LgS B w0 w d l pre room S G af F' := by
  obtain ⟨X, hL, hB, back⟩ := h.opn
  exact back (hL.perm (hp.append_right _)) hB
theorem wB_ok : 1 ≤ wB.size ∧ wB.size ≤ 55 := by decide
section
variable {B d l n k af : Nat} {H : List (Wg × Nat)} {xs : List (List UInt8)} {F : List Res} {w0 w : World}
theorem loneAppend_fn (v : Value) (x : List UInt8) (ht : TabW B w0) (h : Lone n k H af xs) (hw : wtW (xs ++ [x]) ≤ 20010) (hk : k < af) (ha : af < 2100) (hv : ∀ w', Sep Tryd.prog B w0 w' F → Sl w' v (bv x)) (hG : LgS B w0 w d l wB 1048576 (fsW wB H) (gsW H) af F) :
    Fn Tryd.prog 7 #[.pointer (some ⟨l, 0, none⟩), v] w fun r w' => ∃ H', r = .tuple #[.int .i64 (af : Int), .int .i64 0] ∧ Lone n k H' (af + 1) (xs ++ [x]) ∧ LgS B w0 w' d l wB 1048576 (fsW wB H') (gsW H') (af + 1) F := by
  obtain ⟨H', h1, h2, h3, h4⟩ := h.append wB_ok hw hk ha
  have hxl := wtW_mem (xs := xs ++ [x]) (x := x) (by simp)
  refine (logAppend_fn v x (by omega) wB_ok ht h.hlen h.hfs h.ch.last hv hG).mono fun r w ⟨hr, hG⟩ => ⟨H', ?_, h1, ?_⟩
  · rw [hr, h2]; rfl
  · rw [h2, h3, h4] at hG; exact hG
theorem loneSync_fn (k' : Nat) (ht : TabW B w0) (h : Lone n k H af xs) (hG : LgS B w0 w d l wB 1048576 (fsW wB H) (gsW H) af F) :
    Fn Tryd.prog 6 #[.pointer (some ⟨l, 0, none⟩)] w fun r w' => ∃ H', r = .int .i64 0 ∧ Lone n k' H' af xs ∧ (∀ g ∈ H', g.2 = g.1.size) ∧ LgS B w0 w' d l wB 1048576 (fsW wB H') (gsW H') af F := by
  obtain ⟨h1, h2, h3, h4⟩ := h.sync (pre := wB) k'
  refine (logSync_fn wB_ok ht h.hlen (fun g hg => (h.hfs g hg).1) hG).mono fun r w ⟨hr, hG⟩ => ⟨_, hr, h1, h4, ?_⟩
  rw [h2, h3] at hG; exact hG
/-- an entry that is there -/
theorem chGet_fn {pre : ByteArray} {room : Nat} {S : List Fl} {G : List Wg} (i : Nat) (hc : ChG n G af) (ha : af ≤ 2101) (hw : wtW (flatG G) ≤ 20010) (hi : n ≤ i) {x : List UInt8} (hx : (flatG G)[i - n]? = some x) (hG : LgS B w0 w d l pre room S G af F) :
    Fn Tryd.prog 10 #[.pointer (some ⟨l, 0, none⟩), .int .i64 (i : Int)] w fun r w' => ∃ u, r = .tuple #[u, .int .i64 0] ∧ LgS B w0 w' d l pre room S G af (.row 5 1 u x.length (bv x) :: F) := by
  obtain ⟨h1, h2⟩ := hc.hfs ha hw
  have hl := (List.getElem?_eq_some_iff.1 hx).1
  have haf := hc.af
  have e : getW G (i : Int) = some x := by rw [getW_ch hc i hi, hx]
  refine (logGet_fn (i : Int) (by omega) h2 h1 hc.apart hG).mono fun r w h => ?_
  rw [e] at h
  exact h
theorem chGetNo_fn {pre : ByteArray} {room : Nat} {S : List Fl} {G : List Wg} (i : Int) (h0 : 0 ≤ i) (hc : ChG n G af) (ha : af ≤ 2101) (hw : wtW (flatG G) ≤ 20010) (hi : i < (n : Int)) (hG : LgS B w0 w d l pre room S G af F) :
    Fn Tryd.prog 10 #[.pointer (some ⟨l, 0, none⟩), .int .i64 i] w fun r w' => r = .tuple #[.slice none 0 0, .int .i64 7] ∧ LgS B w0 w' d l pre room S G af F := by
  obtain ⟨h1, h2⟩ := hc.hfs ha hw
  have haf := hc.ge
  refine (logGet_fn i (by omega) h2 h1 hc.apart hG).mono fun r w h => ?_
  rw [getW_low hc hi] at h
  exact h
end
theorem ChG.redo {f : Wg → Wg} (hf : ∀ g, (f g).first = g.first ∧ (f g).es = g.es) : ∀ {G : List Wg} {n af : Nat}, ChG n G af → ChG n (G.map f) af
  | [], _, _, h => h
  | g :: gs, n, af, ⟨h1, h2, h3⟩ => by
    refine ⟨(hf g).1.trans h1, fun hc => ?_, ?_⟩
    · rw [(hf g).2]; exact h2 (by intro h; exact hc (by rw [h]; rfl))
    · have e : (f g).next = g.next := by rw [Wg.next, Wg.next, (hf g).1, (hf g).2]
      show ChG (f g).next (gs.map f) af
      rw [e]; exact ChG.redo hf h3
theorem flatG_redo {f : Wg → Wg} (hf : ∀ g, (f g).es = g.es) (G : List Wg) : flatG (G.map f) = flatG G := by
  rw [flatG, flatG, List.flatMap_map]
  congr 1
  funext g; exact hf g
theorem Lone.opened2 {n k af : Nat} {H : List (Wg × Nat)} {xs : List (List UInt8)} (h : Lone n k H af xs) (hne : H ≠ []) (pre : ByteArray) :
    ∃ G, (openG pre (fsW pre H)).G = G ∧ ChG n G af ∧ flatG G = xs ∧ (openG pre (fsW pre H)).af = af ∧ (openG pre (fsW pre H)).S = fsW pre H := by
  obtain ⟨h1, h2, h3⟩ := h.opened pre
  exact ⟨_, h1, h.ch.redo (f := fun g => ⟨g.first, g.es, true⟩) (fun _ => ⟨rfl, rfl⟩), (flatG_redo (f := fun g => ⟨g.first, g.es, true⟩) (fun _ => rfl) _).trans h.flat, h2 hne, h3⟩
def rB (xs : List (Value × List UInt8)) : List (List UInt8) := xs.map (·.2)
theorem rB_len (xs : List (Value × List UInt8)) : (rB xs).length = xs.length := List.length_map _
theorem rB_take {xs : List (Value × List UInt8)} {k : Nat} (h : k < xs.length) : (rB xs).take (k + 1) = (rB xs).take k ++ [(xs[k]).2] := by
  rw [List.take_succ_eq_append_getElem (by rw [rB_len]; exact h)]
  simp [rB]
theorem wt_succ {xs : List (Value × List UInt8)} {k : Nat} (h : k < xs.length) : wtW ((rB xs).take (k + 1)) = wtW ((rB xs).take k) + (10 + (xs[k]).2.length) := by
  rw [rB_take h, wtW_app]; simp [wtW]
theorem wt_take (xs : List (List UInt8)) (k : Nat) : wtW (xs.take k) ≤ wtW xs := by
  have := wtW_app (xs.take k) (xs.drop k)
  rw [List.take_append_drop] at this
  omega
theorem open_nil (pre : ByteArray) : openG pre [] = ⟨[], 1, [], true⟩ := by simp [openG, names]
end Go.Proofs.YtjafamiaahabgaaDoor
namespace Go.Proofs.YtjafamiaahabgaaDoor
open Go.RowKit Go.Lib
set_option linter.unusedVariables false
set_option linter.unusedSimpArgs false
set_option maxRecDepth 100000

theorem rows_one {w : World} {xs : List (Value × List UInt8)} (h : ∀ p ∈ xs, Sl w p.1 (bv p.2) ∧ p.2.length ≤ 140737488355328) : ∀ u ∈ xs.map (·.1), u.oneCell' = true := fun u hu => by
  obtain ⟨p, hp, rfl⟩ := List.mem_map.1 hu
  obtain ⟨a, c, hv⟩ := (h p hp).1.shape
  rw [hv]; rfl
/-- both ways of a condition meet again -/
theorem Br.join {P : Program} {N : Nat} {c : Bool} {a1 a2 b : Code} {Q : Exit → Env → World → Prop} {e1 e2 : Env} {w : World} {α : Type} (E : α → Env) (I : α → World → Prop)
    (h1 : c = true → V P N a1 (jq E I Q) e1 w) (h2 : c = false → V P N a2 (jq E I Q) e2 w) (h' : ∀ z w, I z w → V P N b Q (E z) w) : Br c (V P N a1 (sq P N b Q) e1 w) (V P N a2 (sq P N b Q) e2 w) := by
  cases c with
  | true => exact Br.yes rfl (V.join E I (h1 rfl) h')
  | false => exact Br.no rfl (V.join E I (h2 rfl) h')
set_option maxHeartbeats 16000000 in
theorem walLasts_fn (v1 : Value) (xs : List (Value × List UInt8)) (v2 : Value) (ys : List (Value × List UInt8)) (draw : Int) (w0 : World) (htab : TabIs Tryd.prog w0 "internal/strconv.uint64pow10" .u64 pow10Tab) (hs : Sl w0 v1 (xs.map (·.1))) (hxs : ∀ p ∈ xs, Sl w0 p.1 (bv p.2) ∧ p.2.length ≤ 140737488355328)
    (hs2 : Sl w0 v2 (ys.map (·.1))) (hys : ∀ p ∈ ys, Sl w0 p.1 (bv p.2) ∧ p.2.length ≤ 140737488355328) (hdw : (Lit.int .i64 draw).wf = true) (hlx : xs.length ≤ 1048576) (hly : ys.length ≤ 1048576) :
    Fn Tryd.prog 3 #[v1, v2, .int .i64 draw] w0 fun r w' => r = .bool true ∧ Below w0.heap.size w0 w' := by
  have hdraw := (i64_wf hdw).2
  have ht : TabW w0.heap.size w0 := fun w h => tab_belowW htab h
  have hpw := wB_ok
  have hL := Sep.start Tryd.prog w0
  have hB := Nat.le_refl w0.heap.size
  have hone1 := rows_one hxs
  have hone2 := rows_one hys
  obtain ⟨xa, xc, rfl⟩ := hs.shape
  obtain ⟨ya, yc, rfl⟩ := hs2.shape
  simp only [List.length_map] at *
  have hall : ∀ p ∈ xs ++ ys, Sl w0 p.1 (bv p.2) ∧ p.2.length ≤ 140737488355328 := fun p h => (List.mem_append.1 h).elim (hxs p) (hys p)
  refine Fn.mk Tryd.func3 rfl (by kernel_rfl) Tryd.ntmps3 rfl (by rw [Tryd.results3]) ?_
  repeat (first | (refine RunH ?_; intro w hL hB; try clear w) | (refine Both.mk ?_ ?_ <;> conv => whnf) | fail)
  refine Rv.buildS (len := 0) (vs := []) ttOk hL tl22 tl23 rfl rfl (by intro u hu; cases hu) (by decide) (by decide) hB fun bo w hL hB => ?_
  conv => whnf
  repeat (first | (refine RunH ?_; intro w hL hB; try clear w) | (refine Both.mk ?_ ?_ <;> conv => whnf) | fail)
  refine Rv.appendS (m := xs.length) ttOk hL tl22 tl23 rfl (by decide) 0 rfl (by have := (hs.below hL.below).toN; rwa [List.length_map] at this) hone1 (by simp only [maxLen]; omega) (by omega) hB fun v1 w hL hB => ?_
  dsimp only [List.set] at hL
  rw [Nat.zero_add, List.flatMap_nil, List.nil_append] at hL
  obtain ⟨a1, c1, rfl⟩ := (show SlN w 1 v1 xs.length _ from hL.rowN (i := 0) rfl).shape
  conv => whnf
  repeat (first | (refine RunH ?_; intro w hL hB; try clear w) | (refine Both.mk ?_ ?_ <;> conv => whnf) | fail)
  refine Rv.appendS (m := ys.length) ttOk hL tl22 tl23 rfl (by decide) 0 rfl (by have := (hs2.below hL.below).toN; rwa [List.length_map] at this) hone2 (by simp only [maxLen]; omega) (by omega) hB fun v2 w hL hB => ?_
  dsimp only [List.set] at hL
  rw [← List.map_append, ← List.length_append] at hL
  have hNl : (xs ++ ys).length = xs.length + ys.length := List.length_append
  have hrl : (rB (xs ++ ys)).length = xs.length + ys.length := by rw [rB_len, hNl]
  generalize hal : xs ++ ys = al at *
  obtain ⟨la, lc, rfl⟩ := (show SlN w 1 v2 al.length _ from hL.rowN (i := 0) rfl).shape
  have elem : ∀ {L : List Res} {w' : World} {i : Nat}, Sep Tryd.prog w0.heap.size w0 w' L → L[i]? = some (.row 23 1 (.slice la al.length lc) al.length (al.map (·.1))) → ∀ k (hk : k < al.length), ∃ b o, la = some ⟨b, o, none⟩ ∧ Row w' b o (al.map (·.1)) := fun h hi k hk => (h.row hi).addr (by omega)
  obtain ⟨sm, hsm⟩ : ∃ sm : Nat → Nat, sm = fun k => wtW ((rB al).take k) := ⟨_, rfl⟩
  have sm0 : sm 0 = 0 := by rw [hsm]; simp [wtW]
  have smS : ∀ k (h : k < al.length), sm (k + 1) = sm k + (10 + (al[k]).2.length) := fun k h => by rw [hsm]; dsimp only; rw [wt_succ h]
  have smN : sm al.length = wtW (rB al) := by rw [hsm]; dsimp only; rw [List.take_of_length_le (by rw [rB_len]; exact Nat.le_refl _)]
  clear hsm
  conv => whnf
  repeat (first | (refine RunH ?_; intro w hL hB; try clear w) | (refine Both.mk ?_ ?_ <;> conv => whnf) | fail)
  refine V.loop (α := Nat) (fun k => [(0, .slice xa xs.length xc), (1, .slice ya ys.length yc), (2, .int .i64 draw), (8, .slice la al.length lc), (7, .int .i64 (sm k : Int)), (9, .int .i64 (k : Int))])
    (fun k w' => k ≤ al.length ∧ sm k ≤ 140737488400000 ∧ Sep Tryd.prog w0.heap.size w0 w' [.row 23 1 (.slice la al.length lc) al.length (al.map (·.1))] ∧ w0.heap.size ≤ w'.heap.size) (fun k => al.length - k) 0 ⟨rfl, rfl, rfl, rfl, vint (by rw [sm0]; rfl), rfl, trivial⟩ ⟨by omega, by omega, hL, hB⟩ ?_
  clear hL hB
  rintro k w ⟨hk, hsum, hL, hB⟩
  try dsimp only at *
  by_cases hgo : k < al.length ∧ sm k ≤ 20000
  · obtain ⟨hlt, hsm⟩ := hgo
    have hm := hall _ (List.getElem_mem hlt)
    obtain ⟨bb, o, rfl, hrow⟩ := elem (i := 0) hL rfl k hlt
    have hsu := smS k hlt
    repeat (first | (refine RunH ?_; intro w hL hB; try clear w) | (refine Both.mk ?_ ?_ <;> conv => whnf) | fail)
    intro o1 ho1
    conv => whnf
    obtain ⟨pa, pc, hpv⟩ := hm.1.shape
    rw [bv_length] at hpv
    refine Ld.row1 ttOk hrow (k := k) tl23 rfl (by rw [List.getElem?_map, List.getElem?_eq_getElem hlt]; exact congrArg some hpv) (by omega) ?_
    conv => whnf
    repeat (first | (refine RunH ?_; intro w hL hB; try clear w) | (refine Both.mk ?_ ?_ <;> conv => whnf) | fail)
    exact ⟨k + 1, ⟨rfl, rfl, rfl, rfl, vint (by rw [hsu]; push_cast; omega), vint (by push_cast; omega), trivial⟩, ⟨by omega, by omega, hL, hB⟩, (by first | omega | (dsimp only; omega))⟩
  by_cases hbig : 20000 < sm k
  · by_cases hlt : k < al.length
    · have h20 : ¬ sm k ≤ 20000 := fun h => hgo ⟨hlt, h⟩
      repeat (first | (refine RunH ?_; intro w hL hB; try clear w) | (refine Both.mk ?_ ?_ <;> conv => whnf) | fail)
      exact ⟨rfl, hL.below⟩
    · repeat (first | (refine RunH ?_; intro w hL hB; try clear w) | (refine Both.mk ?_ ?_ <;> conv => whnf) | fail)
      exact ⟨rfl, hL.below⟩
  have hke : k = al.length := by
    rcases Nat.lt_or_ge k al.length with h | h
    · exact absurd ⟨h, by omega⟩ hgo
    · omega
  subst hke
  have hlt : ¬ al.length < al.length := by omega
  have hwt : wtW (rB al) ≤ 20000 := by omega
  have hxl : al.length ≤ 2000 := by
    have := wtW_len (rB al)
    rw [rB_len] at this
    omega
  clear hsum hk hgo
  repeat (first | (refine RunH ?_; intro w hL hB; try clear w) | (refine Both.mk ?_ ?_ <;> conv => whnf) | fail)
  refine (new_fn 1048576 hL hB).mono fun r w hr => ?_
  obtain ⟨d, rfl, hD⟩ := hr.1 (by decide)
  replace hD : DkS w0.heap.size w0 w d 1048576 [] _ := hD
  clear hr hL hB
  obtain ⟨dL, hL, hB, close⟩ := hD.open
  clear hD
  conv => whnf
  repeat (first | (refine RunH ?_; intro w hL hB; try clear w) | (refine Both.mk ?_ ?_ <;> conv => whnf) | fail)
  refine (logOpen_fn (pre := wB) hpw ht (close (F' := [_]) hL hB)).mono fun r w ⟨l, hr, hG⟩ => ?_
  rw [open_nil] at hG
  replace hG : LgS w0.heap.size w0 w d l wB 1048576 (fsW wB []) (gsW []) 1 [.row 23 1 (.slice la al.length lc) al.length (al.map (·.1))] := hG
  subst hr
  clear hL hB close
  obtain ⟨X, hL, hB, back⟩ := hG.opn
  conv => whnf
  repeat (first | (refine RunH ?_; intro w hL hB; try clear w) | (refine Both.mk ?_ ?_ <;> conv => whnf) | fail)
  clear hL hB back
  refine V.loop (α := Nat) (fun k => [(0, .slice xa xs.length xc), (1, .slice ya ys.length yc), (2, .int .i64 draw), (8, .slice la al.length lc), (10, ptr d), (12, ptr l), (14, .int .i64 (k : Int))])
    (fun k w' => k ≤ al.length ∧ ∃ H, Lone 1 (if k ≤ xs.length then 0 else xs.length) H (k + 1) ((rB al).take k) ∧ LgS w0.heap.size w0 w' d l wB 1048576 (fsW wB H) (gsW H) (k + 1) [.row 23 1 (.slice la al.length lc) al.length (al.map (·.1))]) (fun k => al.length - k) 0 ⟨rfl, rfl, rfl, rfl, rfl, rfl, rfl, trivial⟩ ⟨by omega, [], Lone.nil, hG⟩ ?_
  clear hG hlt
  rintro k w ⟨hk, H, hlo, hG⟩
  try dsimp only at *
  by_cases hlt : k < al.length
  · have hm := hall _ (List.getElem_mem hlt)
    have hrk := rB_take hlt
    obtain ⟨X, hL, hB, back⟩ := hG.opn
    clear hG
    obtain ⟨bb, o, rfl, hrow⟩ := elem (i := 0) hL rfl k hlt
    clear hrow
    generalize hxk : al[k] = x at *
    obtain ⟨xv, xl⟩ := x
    obtain ⟨pa, pc, hpv⟩ := hm.1.shape
    rw [bv_length] at hpv
    dsimp only at hpv hm hrk
    subst hpv
    by_cases he : k = xs.length
    case pos =>
      have he2 : (k : Int) = (xs.length : Int) := by omega
      repeat (first | (refine RunH ?_; intro w hL hB; try clear w) | (refine Both.mk ?_ ?_ <;> conv => whnf) | fail)
      refine (loneSync_fn xs.length ht hlo (back (F' := [_]) hL hB)).mono fun r w ⟨H, hr, hlo, _, hG⟩ => ?_
      subst hr
      clear hL hB back
      replace hlo : Lone 1 (if k < xs.length then 0 else xs.length) H (k + 1) ((rB al).take k) := by rw [if_neg (by omega)]; exact hlo
      obtain ⟨X, hL, hB, back⟩ := hG.opn
      clear hG
      conv => whnf
      repeat (first | (refine RunH ?_; intro w hL hB; try clear w) | (refine Both.mk ?_ ?_ <;> conv => whnf) | fail)
      obtain ⟨_, _, heq, hrow⟩ := elem (i := 0) hL rfl k hlt
      cases heq
      intro o1 ho1
      conv => whnf
      refine Ld.row1 ttOk hrow (k := k) tl23 rfl (by rw [List.getElem?_map, List.getElem?_eq_getElem hlt, hxk]; rfl) (by omega) ?_
      conv => whnf
      repeat (first | (refine RunH ?_; intro w hL hB; try clear w) | (refine Both.mk ?_ ?_ <;> conv => whnf) | fail)
      refine (loneAppend_fn _ xl ht hlo (by rw [← hrk]; have := wt_take (rB al) (k + 1); omega) (by split <;> omega) (by omega) (fun w' h => h.sl hm.1 rfl) (back (F' := [_]) hL hB)).mono fun r w ⟨H2, hr, hlo, hG⟩ => ?_
      subst hr
      rw [← hrk] at hlo
      clear hL hB back hrow
      obtain ⟨X, hL, hB, back⟩ := hG.opn
      conv => whnf
      repeat (first | (refine RunH ?_; intro w hL hB; try clear w) | (refine Both.mk ?_ ?_ <;> conv => whnf) | fail)
      refine ⟨k + 1, ⟨rfl, rfl, rfl, rfl, rfl, rfl, vint (by push_cast; omega), trivial⟩, ⟨by omega, H2, ?_, hG⟩, (by first | omega | (dsimp only; omega))⟩
      by_cases hk2 : k < xs.length
      · rw [if_pos (by omega)]; rw [if_pos hk2] at hlo; exact hlo
      · rw [if_neg (by omega)]; rw [if_neg hk2] at hlo; exact hlo
    case neg =>
      have he2 : ¬ (k : Int) = (xs.length : Int) := by omega
      replace hlo : Lone 1 (if k < xs.length then 0 else xs.length) H (k + 1) ((rB al).take k) := by
        by_cases hk2 : k < xs.length
        · rw [if_pos hk2]; rw [if_pos (by omega)] at hlo; exact hlo
        · rw [if_neg hk2]; rw [if_neg (by omega)] at hlo; exact hlo
      repeat (first | (refine RunH ?_; intro w hL hB; try clear w) | (refine Both.mk ?_ ?_ <;> conv => whnf) | fail)
      obtain ⟨_, _, heq, hrow⟩ := elem (i := 0) hL rfl k hlt
      cases heq
      intro o1 ho1
      conv => whnf
      refine Ld.row1 ttOk hrow (k := k) tl23 rfl (by rw [List.getElem?_map, List.getElem?_eq_getElem hlt, hxk]; rfl) (by omega) ?_
      conv => whnf
      repeat (first | (refine RunH ?_; intro w hL hB; try clear w) | (refine Both.mk ?_ ?_ <;> conv => whnf) | fail)
      refine (loneAppend_fn _ xl ht hlo (by rw [← hrk]; have := wt_take (rB al) (k + 1); omega) (by split <;> omega) (by omega) (fun w' h => h.sl hm.1 rfl) (back (F' := [_]) hL hB)).mono fun r w ⟨H2, hr, hlo, hG⟩ => ?_
      subst hr
      rw [← hrk] at hlo
      clear hL hB back hrow
      obtain ⟨X, hL, hB, back⟩ := hG.opn
      conv => whnf
      repeat (first | (refine RunH ?_; intro w hL hB; try clear w) | (refine Both.mk ?_ ?_ <;> conv => whnf) | fail)
      refine ⟨k + 1, ⟨rfl, rfl, rfl, rfl, rfl, rfl, vint (by push_cast; omega), trivial⟩, ⟨by omega, H2, ?_, hG⟩, (by first | omega | (dsimp only; omega))⟩
      by_cases hk2 : k < xs.length
      · rw [if_pos (by omega)]; rw [if_pos hk2] at hlo; exact hlo
      · rw [if_neg (by omega)]; rw [if_neg hk2] at hlo; exact hlo
  obtain rfl : k = al.length := by omega
  have hrx : (rB al).take al.length = rB al := List.take_of_length_le (by rw [rB_len]; exact Nat.le_refl _)
  rw [hrx] at hlo
  obtain ⟨X, hL, hB, back⟩ := hG.opn
  clear hG
  repeat (first | (refine RunH ?_; intro w hL hB; try clear w) | (refine Both.mk ?_ ?_ <;> conv => whnf) | fail)
  refine Br.join (α := Unit) (fun _ => [(0, .slice xa xs.length xc), (1, .slice ya ys.length yc), (2, .int .i64 draw), (8, .slice la al.length lc), (10, ptr d), (12, ptr l)])
    (fun _ w' => ∃ H, Lone 1 xs.length H (al.length + 1) (rB al) ∧ LgS w0.heap.size w0 w' d l wB 1048576 (fsW wB H) (gsW H) (al.length + 1) [.row 23 1 (.slice la al.length lc) al.length (al.map (·.1))]) (fun he => ?_) (fun he => ?_) ?_
  · simp only [decide_eq_true_eq] at he
    repeat (first | (refine RunH ?_; intro w hL hB; try clear w) | (refine Both.mk ?_ ?_ <;> conv => whnf) | fail)
    refine (loneSync_fn xs.length ht hlo (back (F' := [_]) hL hB)).mono fun r w ⟨H2, hr, hlo, _, hG⟩ => ?_
    subst hr
    clear hL hB back
    obtain ⟨X, hL, hB, back⟩ := hG.opn
    conv => whnf
    repeat (first | (refine RunH ?_; intro w hL hB; try clear w) | (refine Both.mk ?_ ?_ <;> conv => whnf) | fail)
    exact ⟨(), ⟨rfl, rfl, rfl, rfl, rfl, rfl, trivial⟩, H2, hlo, hG⟩
  · simp only [decide_eq_false_iff_not] at he
    rw [if_neg (by omega)] at hlo
    repeat (first | (refine RunH ?_; intro w hL hB; try clear w) | (refine Both.mk ?_ ?_ <;> conv => whnf) | fail)
    exact ⟨(), ⟨rfl, rfl, rfl, rfl, rfl, rfl, trivial⟩, H, hlo, back (F' := [_]) hL hB⟩
  clear hL hB back hlo H
  rintro _ w ⟨H, hlo, hG⟩
  obtain ⟨dL, hL, hB, close⟩ := hG.disk.open
  clear hG
  repeat (first | (refine RunH ?_; intro w hL hB; try clear w) | (refine Both.mk ?_ ?_ <;> conv => whnf) | fail)
  refine (crash_fn draw hdraw (close (F' := [_]) hL hB)).mono fun r w hD => ?_
  clear hL hB close
  obtain ⟨dL, hL, hB, close⟩ := hD.open
  clear hD
  conv => whnf
  repeat (first | (refine RunH ?_; intro w hL hB; try clear w) | (refine Both.mk ?_ ?_ <;> conv => whnf) | fail)
  obtain ⟨q, hch, haf, hfl, hq1, hq2, _⟩ := hlo.crash (pre := wB) draw
  refine (logOpen_fn (pre := wB) hpw ht (close (F' := [_]) hL hB)).mono fun r w ⟨m, hr, hG⟩ => ?_
  rw [haf] at hG
  generalize (openG wB (crashS (fsW wB H) draw)).G = G at *
  generalize (openG wB (crashS (fsW wB H) draw)).S = S at *
  subst hr
  clear hL hB close
  obtain ⟨X, hL, hB, back⟩ := hG.opn
  clear hG
  rw [rB_len] at hq1 hq2
  have hwf : wtW (flatG G) ≤ 20010 := by rw [hfl]; have := wt_take (rB al) q; omega
  conv => whnf
  repeat (first | (refine RunH ?_; intro w hL hB; try clear w) | (refine Both.mk ?_ ?_ <;> conv => whnf) | fail)
  refine (logBounds_fn (back (F' := [_]) hL hB)).mono fun r w ⟨hr, hG⟩ => ?_
  rw [low_ch hch] at hr
  subst hr
  clear hL hB back
  obtain ⟨X, hL, hB, back⟩ := hG.opn
  clear hG
  conv => whnf
  repeat (first | (refine RunH ?_; intro w hL hB; try clear w) | (refine Both.mk ?_ ?_ <;> conv => whnf) | fail)
  replace hG := back (F' := [_]) hL hB
  clear hL hB back
  refine V.loop (α := Nat) (fun j => [(8, .slice la al.length lc), (17, ptr m), (20, .int .i64 ((1 + q : Nat) : Int)), (21, .int .i64 ((j + 1 : Nat) : Int))])
    (fun j w' => j ≤ q ∧ ∃ F, LgS w0.heap.size w0 w' d m wB 1048576 S G (1 + q) (.row 23 1 (.slice la al.length lc) al.length (al.map (·.1)) :: F)) (fun j => q - j) 0 ⟨rfl, rfl, rfl, rfl, trivial⟩ ⟨by omega, _, hG⟩ ?_
  clear hG
  rintro j w ⟨hj, F, hG⟩
  try dsimp only at *
  obtain ⟨X, hL, hB, back⟩ := hG.opn
  clear hG
  by_cases hlt : j < q
  · have hjx : j < al.length := by omega
    obtain ⟨bb, o, rfl, hrow⟩ := elem (i := 0) hL rfl j hjx
    clear hrow
    have hm := hall _ (List.getElem_mem hjx)
    have hx1 : (flatG G)[j + 1 - 1]? = some (al[j]).2 := by
      rw [hfl, List.getElem?_take_of_lt (by omega), Nat.add_sub_cancel, rB, List.getElem?_map, List.getElem?_eq_getElem hjx]; rfl
    generalize hxk : al[j] = x at *
    obtain ⟨xv, xl⟩ := x
    obtain ⟨pa, pc, hpv⟩ := hm.1.shape
    rw [bv_length] at hpv
    dsimp only at hpv hm hx1
    subst hpv
    repeat (first | (refine RunH ?_; intro w hL hB; try clear w) | (refine Both.mk ?_ ?_ <;> conv => whnf) | fail)
    refine (chGet_fn (j + 1) hch (by omega) hwf (by omega) hx1 (back (F' := _ :: F) hL hB)).mono fun r w ⟨u, hr, hG⟩ => ?_
    subst hr
    clear hL hB back
    obtain ⟨X, hL, hB, back⟩ := hG.opn
    clear hG
    obtain ⟨ua, uc, rfl⟩ := (show SlN w 1 u _ _ from hL.rowN (i := 0) rfl).shape
    obtain ⟨_, _, heq, hrow⟩ := elem (i := 1) hL rfl j hjx
    cases heq
    conv => whnf
    repeat (first | (refine RunH ?_; intro w hL hB; try clear w) | (refine Both.mk ?_ ?_ <;> conv => whnf) | fail)
    intro o1 ho1
    conv => whnf
    repeat (first | (refine RunH ?_; intro w hL hB; try clear w) | (refine Both.mk ?_ ?_ <;> conv => whnf) | fail)
    refine Ld.row1 ttOk hrow (k := j) tl23 rfl (by rw [List.getElem?_map, List.getElem?_eq_getElem hjx, hxk]; rfl) (by omega) ?_
    conv => whnf
    repeat (first | (refine RunH ?_; intro w hL hB; try clear w) | (refine Both.mk ?_ ?_ <;> conv => whnf) | fail)
    refine (same_fn _ _ xl xl _ (hL.row (i := 0) rfl) (hL.sl hm.1 rfl)).mono fun r w ⟨hr, hw⟩ => ?_
    subst hr
    replace hL := hL.call hB (Turns.of_below hw)
    replace hB := Nat.le_trans hB hw.size
    rw [decide_eq_true rfl]
    conv => whnf
    repeat (first | (refine RunH ?_; intro w hL hB; try clear w) | (refine Both.mk ?_ ?_ <;> conv => whnf) | fail)
    exact ⟨j + 1, ⟨rfl, rfl, rfl, vint (by push_cast; omega), trivial⟩, ⟨by omega, _, (back (F' := _ :: _ :: F) hL hB).perm (List.Perm.swap _ _ _)⟩, (by first | omega | (dsimp only; omega))⟩
  repeat (first | (refine RunH ?_; intro w hL hB; try clear w) | (refine Both.mk ?_ ?_ <;> conv => whnf) | fail)
  refine (known_fn _ (tab_belowW htab hL.below)).mono fun r w ⟨hr, hw⟩ => ?_
  subst hr
  replace hL := hL.call hB (Turns.of_below hw)
  replace hB := Nat.le_trans hB hw.size
  conv => whnf
  repeat (first | (refine RunH ?_; intro w hL hB; try clear w) | (refine Both.mk ?_ ?_ <;> conv => whnf) | fail)
  exact ⟨rfl, hL.below⟩
end Go.Proofs.YtjafamiaahabgaaDoor
