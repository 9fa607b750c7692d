/- disk: List. volume.Name of any number. Nothing is claimed here. -/
import Derived.Test.YtjafamiaahabgaaGreatDoorK06
import Derived.Test.YtjafamiaahabgaaGreatDoorIter
import Derived.Test.YtjafamiaahabgaaGreatDoorK04
import Derived.Test.YtjafamiaahabgaaGreatDoorItoa
namespace Go.Proofs.YtjafamiaahabgaaGreatDoor
open Go.RowKit
open Go.Maps (Keyed)
open Go.WideElems (Fit rd rg)
set_option linter.unusedVariables false
set_option linter.unusedSimpArgs false
set_option maxRecDepth 100000

def nmB (s : ByteArray) : List UInt8 := s.data.toList
theorem nmB_inj {a b : ByteArray} (h : nmB a = nmB b) : a = b := by
  cases a; cases b
  simp [nmB, Array.toList_inj] at h
  rw [h]
theorem encStr_nm (s : ByteArray) : encStr (nmB s) = .string s := by simp [encStr, nmB]
def noR : Value → Option (DataW Unit × List MemPlace) := fun _ => some (.nil, [])
theorem key_str {s : ByteArray} (h : s.size ≤ 1000000) : keyOf Tryz.prog 9 (.string s) = some (.string (nmB s)) := by
  simp only [keyOf, Tryz.underlying9, mapKey, nmB]
  rw [if_pos (by simp only [maxLen]; omega)]
theorem own_files {w : World} {m : Nat} {fs : List Fv} (hm : Mp Tryz.prog 9 w m (fs.map Fv.ent)) (hl : fs.length ≤ 256) (hn : ∀ f ∈ fs, f.nm.size ≤ 1000000) :
    ∃ D : DataW Unit, w.ownsMap Tryz.prog 9 noR m 256 D ∧ Maps.size D = fs.length ∧ (strKeys D).Perm (fs.map fun f => nmB f.nm) := by
  obtain ⟨⟨es, c, h1, h2, h3⟩, h4⟩ := hm
  have hsz : es.size = fs.length := by have := congrArg List.length h3; simpa [kvs] using this
  have hkey : ∀ x ∈ es.toList, ∃ f ∈ fs, x.key = .string f.nm := fun x hx => by
    have : kv x ∈ fs.map Fv.ent := by rw [← h3]; exact List.mem_map_of_mem hx
    obtain ⟨f, hf, he⟩ := List.mem_map.1 this
    exact ⟨f, hf, (congrArg Prod.fst he).symm⟩
  have hrg : ∀ x ∈ es.toList, ∀ f ∈ fs, x.key = .string f.nm → rd Tryz.prog 9 noR x = some (.string (nmB f.nm), .nil) := fun x hx f hf he => by
    simp only [rd, he, key_str (hn f hf), noR, Option.bind_some, Option.map_some]
  refine ⟨_, ⟨es, c, h1, ⟨by simp only [maxLen]; omega, h2, fun x hx => ?_⟩, by omega, rfl⟩, ?_, ?_⟩
  · obtain ⟨f, hf, he⟩ := hkey x hx
    exact ⟨_, hrg x hx f hf he⟩
  · rw [Go.Maps.size_eq, length_sorted]; simp [hsz]
  · unfold strKeys
    refine ((Go.WideShapes.sorted_perm _).map _).trans ?_
    rw [List.map_map]
    have : (es.toList.map ((fun p : Lit × DataW Unit => strOf p.1) ∘ rg Tryz.prog 9 noR)) = fs.map fun f => nmB f.nm := by
      have e1 : es.toList.map (fun x => x.key) = fs.map fun f => Value.string f.nm := by
        have := congrArg (List.map Prod.fst) h3
        simpa [kvs, kv, Function.comp_def, Fv.ent] using this
      have e2 : es.toList.map ((fun p : Lit × DataW Unit => strOf p.1) ∘ rg Tryz.prog 9 noR) = (es.toList.map (fun x => x.key)).map fun v => match v with | .string s => nmB s | _ => [] := by
        rw [List.map_map]
        refine List.map_congr_left fun x hx => ?_
        obtain ⟨f, hf, he⟩ := hkey x hx
        simp only [Function.comp, rg, hrg x hx f hf he, Option.getD_some, strOf, he]
      rw [e2, e1, List.map_map]
      rfl
    rw [this]

/-- the names, in order -/
def names (S : List Fl) : List (List UInt8) := (S.map fun f => nmB f.nm).mergeSort leB
theorem Fn.of_calls {P : Program} {f : FuncId} {fn : Func} {args : Array Value} {w : World} {K : Value → World → Prop} (h1 : P.funcs[f]? = some fn) (h2 : (fn.name == "runtime.NumGoroutine") = false) (h3 : fn.body.isNone = false) (h : Calls P f args w fun e w' => ∃ v, e = .returned v ∧ K v w') : Fn P f args w K := ⟨⟨fn, h1, h2, h3⟩, h⟩
theorem keys_fn (mb : Option Nat) (w : World) : Fn Tryz.prog 63 #[.map mb] w fun r w' => r = .func (.func 87) #[] #[.pointer (some ⟨w.heap.size, 0, none⟩)] ∧ w' = w.alloc (.cells #[.map mb] 60) :=
  Fn.of_calls Tryz.func63 (by decide +kernel) rfl (((callsIn_wide (n := 5)).1 (Tryz.maps_Keys_63 mb w)).mono fun e w' ⟨h1, h2⟩ => ⟨_, h1, rfl, h2⟩)

theorem sortedN_fn (w : World) : Fn Tryz.prog 62 #[.func (.func 87) #[] #[.pointer (some ⟨w.heap.size, 0, none⟩)]] (w.alloc (.cells #[.map none] 60)) fun r w' => w'.ownsRow w.heap.size 9 1 r 0 [] ∧ Below w.heap.size w w' := by
  refine Fn.of_calls Tryz.func62 (by decide +kernel) rfl (((callsIn_wide (n := 5)).1 (Tryz.slices_Sorted_keys_nil_62_63 w)).mono fun e w' ⟨v, ss, h1, h2, h3, h4, h5⟩ => ?_)
  subst h2
  exact ⟨v, h1, by simpa using own_mono h3 (by simp), ((Below.refl _ w).alloc (Nat.le_refl _) _).trans (h5.mono (by simp))⟩
theorem sorted_fn {m : Nat} {fs : List Fv} (w : World) (hm : Mp Tryz.prog 9 w m (fs.map Fv.ent)) (hl : fs.length ≤ 256) (hn : ∀ f ∈ fs, f.nm.size ≤ 1000000) :
    Fn Tryz.prog 62 #[.func (.func 87) #[] #[.pointer (some ⟨w.heap.size, 0, none⟩)]] (w.alloc (.cells #[.map (some m)] 60)) fun r w' => w'.ownsRow w.heap.size 9 1 r fs.length ((names (fs.map Fv.fl)).map encStr) ∧ Below w.heap.size w w' := by
  obtain ⟨D, hD, hs, hp⟩ := own_files hm hl hn
  refine Fn.of_calls Tryz.func62 (by decide +kernel) rfl (((callsIn_wide (n := 5)).1 (Tryz.slices_Sorted_keys_62_63 m 256 D noR w hD (by simp only [maxLen]; omega) (by omega))).mono fun e w' ⟨v, ss, h1, h2, h3, h4, h5⟩ => ?_)
  have hpp := h2.trans hp
  have e1 : ss.mergeSort (fun x y => decide (x ≤ y)) = names (fs.map Fv.fl) := by
    rw [names, mergeSort_of_perm hpp, List.map_map]; rfl
  have e2 : ss.length = fs.length := by have := hpp.length_eq; simpa using this
  rw [e1, e2] at h3
  exact ⟨v, h1, own_mono h3 (by simp), ((Below.refl _ w).alloc (Nat.le_refl _) _).trans (h5.mono (by simp))⟩

set_option maxHeartbeats 1000000 in
theorem list_fn {B b room : Nat} {S : List Fl} {F : List Res} {w0 w : World} (hD : DkS B w0 w b room S F) :
    Fn Tryz.prog 25 #[ptr b] w fun r w' => DkS B w0 w' b room S (.row 9 1 r S.length ((names S).map encStr) :: F) := by
  obtain ⟨⟨mo, fs, rfl, hok, hmo, hL⟩, hB⟩ := hD
  have hlen : (names (fs.map Fv.fl)).length = fs.length := by simp [names]
  have h256 := hok.len
  refine Fn.mk Tryz.func25 rfl (by kernel_rfl) Tryz.ntmps25 rfl (by rw [Tryz.results25]) ?_
  cases mo with
  | none =>
    obtain rfl := hmo rfl
    simp only [dkRes, mRes, List.map_nil, List.nil_append, List.cons_append] at hL
    repeat (first | (refine RunH ?_; intro w hL hB; try clear w) | (refine Both.mk ?_ ?_ <;> conv => whnf) | fail)
    refine (keys_fn none w).mono fun r w1 ⟨hr, hw⟩ => ?_
    subst hr; subst hw
    conv => whnf
    repeat (first | (refine RunH ?_; intro w hL hB; try clear w) | (refine Both.mk ?_ ?_ <;> conv => whnf) | fail)
    refine (sortedN_fn w).mono fun r w ⟨ho, hw⟩ => ?_
    replace hL := hL.addRow hB hw ho
    replace hB := Nat.le_trans hB hw.size
    obtain ⟨ra, rc, rfl⟩ := (show SlN w 1 r _ _ from hL.rowN (i := 0) rfl).shape
    conv => whnf
    repeat (first | (refine RunH ?_; intro w hL hB; try clear w) | (refine Both.mk ?_ ?_ <;> conv => whnf) | fail)
    exact DkS.mk' (mo := none) (fs := []) hok hmo rfl (hL.perm (by rw [show names (([] : List Fv).map Fv.fl) = [] by simp [names]]; exact .swap _ _ _)) hB
  | some m =>
    simp only [dkRes, mRes, List.nil_append, List.cons_append] at hL
    repeat (first | (refine RunH ?_; intro w hL hB; try clear w) | (refine Both.mk ?_ ?_ <;> conv => whnf) | fail)
    refine (keys_fn (some m) w).mono fun r w1 ⟨hr, hw⟩ => ?_
    subst hr; subst hw
    conv => whnf
    repeat (first | (refine RunH ?_; intro w hL hB; try clear w) | (refine Both.mk ?_ ?_ <;> conv => whnf) | fail)
    refine (sorted_fn w (hL.at (i := 1) rfl) h256 (fun f hf => by have := (hok.nm f hf).2; omega)).mono fun r w ⟨ho, hw⟩ => ?_
    replace hL := hL.addRow hB hw ho
    replace hB := Nat.le_trans hB hw.size
    obtain ⟨ra, rc, rfl⟩ := (show SlN w 1 r _ _ from hL.rowN (i := 0) rfl).shape
    conv => whnf
    repeat (first | (refine RunH ?_; intro w hL hB; try clear w) | (refine Both.mk ?_ ?_ <;> conv => whnf) | fail)
    refine DkS.mk' (mo := some m) (fs := fs) hok hmo rfl (hL.perm ?_) hB
    rw [List.length_map]
    exact (bring (A := [_, _]) (C := fs.map Fv.row)).symm
end Go.Proofs.YtjafamiaahabgaaGreatDoor
namespace Go.Proofs.YtjafamiaahabgaaGreatDoor
open Go.RowKit Go.Lib
set_option linter.unusedVariables false
set_option linter.unusedSimpArgs false
set_option maxRecDepth 100000

theorem decDigits_len : ∀ (n u : Nat), u < 10 ^ (n + 1) → (decDigits u).length ≤ n + 1
  | 0, u, h => by
    rw [decDigits, dif_pos (by simpa using h)]; simp
  | n + 1, u, h => by
    rw [decDigits]
    split
    · simp
    · have h2 : u / 10 < 10 ^ (n + 1) := by
        rw [Nat.pow_succ] at h
        omega
      have := decDigits_len n (u / 10) h2
      simp only [List.length_append, List.length_cons, List.length_nil]
      omega
theorem decDigits_pos (u : Nat) : 1 ≤ (decDigits u).length := by
  rw [decDigits]
  split <;> simp
/-- eight digits -/
def dig8 (i : Nat) : List UInt8 := List.replicate (8 - (decDigits i).length) 48 ++ decDigits i
theorem dig8_len {i : Nat} (h : i ≤ 99999999) : (dig8 i).length = 8 := by
  have := decDigits_len 7 i (by omega)
  rw [dig8, List.length_append, List.length_replicate]
  omega
theorem itoaG_fn (i : Nat) (hi : i ≤ 99999999) (w : World) (htab : TabIs Tryz.prog w "internal/strconv.uint64pow10" .u64 pow10Tab) : Fn Tryz.prog 70 #[.int .i64 (i : Int)] w fun r w' => r = .string ⟨(decDigits i).toArray⟩ ∧ Below w.heap.size w w' := by
  refine Fn.of_calls Tryz.func70 (by decide +kernel) rfl ((Tryz.strconv_Itoa (i : Int) (by omega) (by omega) w htab).mono fun e w' ⟨h1, k, os, h2⟩ => ⟨_, h1, ?_, ?_⟩)
  · rw [itoa, if_neg (by omega), Int.toNat_natCast]
  · subst h2
    exact ⟨rfl, rfl, rfl, by simp, fun j hj => Go.Sort.heap_grow_old _ _ (by simpa using hj)⟩
def vnmG (i : Nat) : ByteArray := ⟨([118] ++ dig8 i ++ [46, 100, 97, 116]).toArray⟩
theorem vnmG_size {i : Nat} (h : i ≤ 99999999) : (vnmG i).size = 13 := by
  show ([118] ++ dig8 i ++ [46, 100, 97, 116]).toArray.size = 13
  simp [dig8_len h]
end Go.Proofs.YtjafamiaahabgaaGreatDoor
