/- disk: Cut, Rot. disk: List. Nothing is claimed here. -/
import Derived.Test.YtladfadcgfdbfaaGreatDoorD07
import Derived.Test.YtladfadcgfdbfaaGreatDoorIter
namespace Go.Proofs.YtladfadcgfdbfaaGreatDoor
open Go.RowKit
open Go.Maps (Keyed)
set_option linter.unusedVariables false
set_option linter.unusedSimpArgs false
set_option maxRecDepth 100000
theorem DkS.perm {B : Nat} {w0 w : World} {b room : Nat} {S : List Fl} {F F' : List Res} (h : DkS B w0 w b room S F) (hp : F.Perm F') : DkS B w0 w b room S F' := by
  obtain ⟨⟨mo, fs, h1, h2, h3, hL⟩, hB⟩ := h
  exact ⟨⟨mo, fs, h1, h2, h3, hL.perm (hp.append_left _)⟩, hB⟩
theorem DkS.sub {B : Nat} {w0 w : World} {b room : Nat} {S : List Fl} {F F' : List Res} (h : DkS B w0 w b room S F) (hp : F'.Sublist F) : DkS B w0 w b room S F' := by
  obtain ⟨⟨mo, fs, h1, h2, h3, hL⟩, hB⟩ := h
  exact ⟨⟨mo, fs, h1, h2, h3, hL.sub ((List.Sublist.refl _).append hp)⟩, hB⟩
theorem DkS.tl {B : Nat} {w0 w : World} {b room : Nat} {S : List Fl} {F : List Res} {R : Res} (h : DkS B w0 w b room S (R :: F)) : DkS B w0 w b room S F := h.sub (List.sublist_cons_self _ _)
def cutE (S : List Fl) (nm : ByteArray) (n : Int) : Nat := match getS S nm with
  | some f => if n < 0 ∨ (f.d.length : Int) < n then 1 else 0
  | none => 7
def cutS (S : List Fl) (nm : ByteArray) (n : Int) : List Fl := match getS S nm with
  | some f => if n < 0 ∨ (f.d.length : Int) < n then S else putS S ⟨nm, f.d.take n.toNat, min n.toNat f.la⟩
  | none => S
theorem cutRow {w : World} {f : Fv} {a : Option Addr} {c k : Nat} (hv : f.v = .slice a f.d.length c) (hk : k ≤ f.d.length) (h : f.row.holds Tryz.prog w) : RowC w 5 (.slice a k k) k (bv (f.d.take k)) ∧ rowB (Value.slice a k k).ownBlock = rowB f.v.ownBlock ∧ (∀ x, a = some x → x.off = 0 ∧ x.spot = none) ∧ f.d.length ≤ c ∧ (a = none → f.d.length = 0) := by
  have h : RowC w 5 f.v f.d.length (bv f.d) := h
  rw [hv] at h ⊢
  rcases h.of with ⟨h1, h2⟩ | ⟨g, cap, cur, h1, h2⟩
  · injection h1 with e1 e2 e3
    subst e1
    subst e3
    obtain rfl : k = 0 := by omega
    exact ⟨RowC.nil w _, rfl, fun x hx => (by cases hx), by omega, fun _ => h2⟩
  · injection h1 with e1 e2 e3
    subst e1
    have := h.cut hk
    rw [bv_take] 
    exact ⟨this, rfl, fun x hx => by injection hx with hx; subst hx; exact ⟨rfl, rfl⟩, by omega, fun hx => by cases hx⟩
theorem dk_row {B b room used : Nat} {mo : Option Nat} {w0 w : World} {F : List Res} {fs : List Fv} {f : Fv} (hL : Sep Tryz.prog B w0 w (dkRes b room used mo fs ++ F)) (hf : f ∈ fs) : f.row.holds Tryz.prog w :=
  hL.hold f.row (by simp only [dkRes, List.cons_append, List.mem_cons, List.mem_append, List.mem_map]; exact .inr (.inl (.inr ⟨f, hf, rfl⟩)))
set_option maxHeartbeats 1000000 in
theorem cut_fn {B b room : Nat} {S : List Fl} {F : List Res} (nm : ByteArray) (hnm : nm.size ≤ 1000000) (n : Int) {w0 w : World} (hD : DkS B w0 w b room S F) :
    Fn Tryz.prog 71 #[ptr b, .string nm, .int .i64 n] w fun r w' => r = .int .i64 (cutE S nm n : Nat) ∧ DkS B w0 w' b room (cutS S nm n) F := by
  obtain ⟨⟨mo, fs, rfl, hok, hmo, hL⟩, hB⟩ := hD
  rw [cutE, cutS, getF_fl]
  have hsh := OkF.shapes hL
  cases hf : getF fs nm with
  | none =>
    simp only [Option.map_none]
    refine Fn.mk Tryz.func71 rfl (by kernel_rfl) Tryz.ntmps71 rfl (by rw [Tryz.results71]) ?_
    repeat (first | (refine RunH ?_; intro w hL hB; try clear w) | (refine Both.mk ?_ ?_ <;> conv => whnf) | fail)
    refine (of_fn nm hnm hok.nd hmo hL hB).mono fun r w ⟨hr, hL, hB⟩ => ?_
    subst hr
    rw [ofV_none hf]
    conv => whnf
    repeat (first | (refine RunH ?_; intro w hL hB; try clear w) | (refine Both.mk ?_ ?_ <;> conv => whnf) | (refine Nw.sep hL hB (fun b1 w hL hB hb1 => ?_); conv => whnf) | fail)
    exact ⟨rfl, DkS.mk' hok hmo rfl hL.tl hB⟩
  | some f =>
    obtain ⟨m, rfl⟩ := mo_some hmo hf
    obtain ⟨fa, fc, hfv⟩ := dk_shape hL (getF_mem hf)
    have hfn : f.nm = nm := by obtain ⟨_, _, _, h, _⟩ := getF_some hf; exact h
    simp only [Option.map_some, Fv.fl]
    by_cases hn : n < 0 ∨ (f.d.length : Int) < n
    · rw [if_pos hn, if_pos hn]
      refine Fn.mk Tryz.func71 rfl (by kernel_rfl) Tryz.ntmps71 rfl (by rw [Tryz.results71]) ?_
      repeat (first | (refine RunH ?_; intro w hL hB; try clear w) | (refine Both.mk ?_ ?_ <;> conv => whnf) | fail)
      refine (of_fn nm hnm hok.nd hmo hL hB).mono fun r w ⟨hr, hL, hB⟩ => ?_
      subst hr
      rw [ofV_some hf hfv]
      conv => whnf
      by_cases h0 : n < 0
      · repeat (first | (refine RunH ?_; intro w hL hB; try clear w) | (refine Both.mk ?_ ?_ <;> conv => whnf) | (refine Nw.sep hL hB (fun b1 w hL hB hb1 => ?_); conv => whnf) | fail)
        exact ⟨rfl, DkS.mk' (mo := some m) hok hmo rfl hL.tl hB⟩
      · repeat (first | (refine RunH ?_; intro w hL hB; try clear w) | (refine Both.mk ?_ ?_ <;> conv => whnf) | (refine Nw.sep hL hB (fun b1 w hL hB hb1 => ?_); conv => whnf) | fail)
        exact ⟨rfl, DkS.mk' (mo := some m) hok hmo rfl hL.tl hB⟩
    rw [if_neg hn, if_neg hn]
    obtain ⟨hl1, hl2⟩ := len_le hok hf
    have hla := hok.la f (getF_mem hf)
    obtain ⟨k, rfl⟩ : ∃ k : Nat, n = k := ⟨n.toNat, by omega⟩
    have hk : k ≤ f.d.length := by omega
    rw [Int.toNat_natCast]
    refine Fn.mk Tryz.func71 rfl (by kernel_rfl) Tryz.ntmps71 rfl (by rw [Tryz.results71]) ?_
    repeat (first | (refine RunH ?_; intro w hL hB; try clear w) | (refine Both.mk ?_ ?_ <;> conv => whnf) | fail)
    refine (of_fn nm hnm hok.nd hmo hL hB).mono fun r w ⟨hr, hL, hB⟩ => ?_
    subst hr
    rw [ofV_some hf hfv]
    obtain ⟨hcr, hcb, ha0, hc0, hz0⟩ := cutRow hfv hk (dk_row hL (getF_mem hf))
    have h1 := hok.nm f (getF_mem hf)
    rw [hfn] at h1
    have ho := oldN_some hf
    have fin : ∀ {w : World} {F : List Res}, Sep Tryz.prog B w0 w (.blk b [.int .i64 (room : Int), .int .i64 (tot fs : Int), .map (some m)] 81 :: (mRes (some m) fs ++ ((putF fs ⟨nm, .slice fa k k, f.d.take k, min k f.la⟩).map Fv.row ++ F))) → B ≤ w.heap.size →
        Fn Tryz.prog 65 #[ptr b, .string nm, .agg #[.slice fa k k, .int .i64 (min (k : Int) (f.la : Int))]] w fun r w' => DkS B w0 w' b room (putS (fs.map Fv.fl) ⟨nm, f.d.take k, min k f.la⟩) F := fun hL hB => by
      rw [show min (k : Int) (f.la : Int) = ((min k f.la : Nat) : Int) from by omega]
      refine (lay_fn (mo := some m) ⟨nm, .slice fa k k, f.d.take k, min k f.la⟩ hnm hok.nd (fun h => by cases h) hsh rfl (by omega) (by simp only [List.length_take]; omega) hL hB).mono fun r w ⟨m', hL, hB⟩ => ?_
      have h3 := OkF.put hok (g := ⟨nm, .slice fa k k, f.d.take k, min k f.la⟩) (by simp only [List.length_take]; omega) h1 (by have := hok.tot; simp only [List.length_take, ho]; omega) (.inl (by simp [hf]))
      have := DkS.mk' (mo := some m') h3 (fun h => by cases h) rfl hL hB
      rw [putF_fl] at this
      exact this
    have prep : ∀ {w : World} {F : List Res}, Sep Tryz.prog B w0 w (dkRes b room (tot fs) (some m) fs ++ F) → Sep Tryz.prog B w0 w (.blk b [.int .i64 (room : Int), .int .i64 (tot fs : Int), .map (some m)] 81 :: (mRes (some m) fs ++ ((putF fs ⟨nm, .slice fa k k, f.d.take k, min k f.la⟩).map Fv.row ++ F))) := fun {w F} hL => by
      obtain ⟨q1, q2, _⟩ := cutRow hfv hk (dk_row hL (getF_mem hf))
      refine lay_prep ((dk_take hf hL).says ?_ ?_)
      · have : (f.d.take k).length = k := by rw [List.length_take]; omega
        simpa [Fv.row, Res.holds, this] using q1
      · exact q2
    conv => whnf
    cases fa with
    | none =>
      obtain rfl : k = 0 := by have := hz0 rfl; omega
      repeat (first | (refine RunH ?_; intro w hL hB; try clear w) | (refine Both.mk ?_ ?_ <;> conv => whnf) | (refine Nw.sep hL hB (fun b1 w hL hB hb1 => ?_); conv => whnf) | (intro n6 c6 p1 p2; obtain rfl : n6 = 0 := (by omega); obtain rfl : c6 = 0 := (by omega); conv => whnf) | fail)
      refine (fin (F := _ :: F) (prep (hL.perm List.perm_middle.symm)) hB).mono fun r w hD => ?_
      conv => whnf
      repeat (first | (refine RunH ?_; intro w hL hB; try clear w) | (refine Both.mk ?_ ?_ <;> conv => whnf) | fail)
      exact ⟨rfl, hD.tl⟩
    | some ad =>
      obtain ⟨g, o, sp⟩ := ad
      obtain ⟨h1, h2⟩ := ha0 _ rfl
      dsimp only at h1 h2
      subst h1; subst h2
      repeat (first | (refine RunH ?_; intro w hL hB; try clear w) | (refine Both.mk ?_ ?_ <;> conv => whnf) | (refine Nw.sep hL hB (fun b1 w hL hB hb1 => ?_); conv => whnf) | (intro n6 c6 p1 p2; obtain rfl : k = n6 := (by omega); obtain rfl : k = c6 := (by omega); conv => whnf) | fail)
      refine (fin (F := _ :: F) (prep (hL.perm List.perm_middle.symm)) hB).mono fun r w hD => ?_
      conv => whnf
      repeat (first | (refine RunH ?_; intro w hL hB; try clear w) | (refine Both.mk ?_ ?_ <;> conv => whnf) | fail)
      exact ⟨rfl, hD.tl⟩
end Go.Proofs.YtladfadcgfdbfaaGreatDoor
namespace Go.Proofs.YtladfadcgfdbfaaGreatDoor
open Go.RowKit
open Go.Maps (Keyed)
open Go.WideElems (Fit rd rg)
set_option linter.unusedVariables false
set_option linter.unusedSimpArgs false
set_option maxRecDepth 100000
def nmB (s : ByteArray) : List UInt8 := s.data.toList
theorem nmB_inj {a b : ByteArray} (h : nmB a = nmB b) : a = b := by
  cases a; cases b
  simp [nmB, Array.toList_inj] at h
  rw [h]
theorem encStr_nm (s : ByteArray) : encStr (nmB s) = .string s := by simp [encStr, nmB]
def noR : Value → Option (DataW Unit × List MemPlace) := fun _ => some (.nil, [])
theorem key_str {s : ByteArray} (h : s.size ≤ 1000000) : keyOf Tryz.prog 9 (.string s) = some (.string (nmB s)) := by
  simp only [keyOf, Tryz.underlying9, mapKey, nmB]
  rw [if_pos (by simp only [maxLen]; omega)]
theorem own_files {w : World} {m : Nat} {fs : List Fv} (hm : Mp Tryz.prog 9 w m (fs.map Fv.ent)) (hl : fs.length ≤ 256) (hn : ∀ f ∈ fs, f.nm.size ≤ 1000000) :
    ∃ D : DataW Unit, w.ownsMap Tryz.prog 9 noR m 256 D ∧ Maps.size D = fs.length ∧ (strKeys D).Perm (fs.map fun f => nmB f.nm) := by
  obtain ⟨⟨es, c, h1, h2, h3⟩, h4⟩ := hm
  have hsz : es.size = fs.length := by have := congrArg List.length h3; simpa [kvs] using this
  have hkey : ∀ x ∈ es.toList, ∃ f ∈ fs, x.key = .string f.nm := fun x hx => by
    have : kv x ∈ fs.map Fv.ent := by rw [← h3]; exact List.mem_map_of_mem hx
    obtain ⟨f, hf, he⟩ := List.mem_map.1 this
    exact ⟨f, hf, (congrArg Prod.fst he).symm⟩
  have hrg : ∀ x ∈ es.toList, ∀ f ∈ fs, x.key = .string f.nm → rd Tryz.prog 9 noR x = some (.string (nmB f.nm), .nil) := fun x hx f hf he => by
    simp only [rd, he, key_str (hn f hf), noR, Option.bind_some, Option.map_some]
  refine ⟨_, ⟨es, c, h1, ⟨by simp only [maxLen]; omega, h2, fun x hx => ?_⟩, by omega, rfl⟩, ?_, ?_⟩
  · obtain ⟨f, hf, he⟩ := hkey x hx
    exact ⟨_, hrg x hx f hf he⟩
  · rw [Go.Maps.size_eq, length_sorted]; simp [hsz]
  · unfold strKeys
    refine ((Go.WideShapes.sorted_perm _).map _).trans ?_
    rw [List.map_map]
    have : (es.toList.map ((fun p : Lit × DataW Unit => strOf p.1) ∘ rg Tryz.prog 9 noR)) = fs.map fun f => nmB f.nm := by
      have e1 : es.toList.map (fun x => x.key) = fs.map fun f => Value.string f.nm := by
        have := congrArg (List.map Prod.fst) h3
        simpa [kvs, kv, Function.comp_def, Fv.ent] using this
      have e2 : es.toList.map ((fun p : Lit × DataW Unit => strOf p.1) ∘ rg Tryz.prog 9 noR) = (es.toList.map (fun x => x.key)).map fun v => match v with | .string s => nmB s | _ => [] := by
        rw [List.map_map]
        refine List.map_congr_left fun x hx => ?_
        obtain ⟨f, hf, he⟩ := hkey x hx
        simp only [Function.comp, rg, hrg x hx f hf he, Option.getD_some, strOf, he]
      rw [e2, e1, List.map_map]
      rfl
    rw [this]
/-- the names, in order -/
def names (S : List Fl) : List (List UInt8) := (S.map fun f => nmB f.nm).mergeSort leB
theorem Fn.of_calls {P : Program} {f : FuncId} {fn : Func} {args : Array Value} {w : World} {K : Value → World → Prop} (h1 : P.funcs[f]? = some fn) (h2 : (fn.name == "runtime.NumGoroutine") = false) (h3 : fn.body.isNone = false) (h : Calls P f args w fun e w' => ∃ v, e = .returned v ∧ K v w') : Fn P f args w K := ⟨⟨fn, h1, h2, h3⟩, h⟩
theorem keys_fn (mb : Option Nat) (w : World) : Fn Tryz.prog 67 #[.map mb] w fun r w' => r = .func (.func 108) #[] #[.pointer (some ⟨w.heap.size, 0, none⟩)] ∧ w' = w.alloc (.cells #[.map mb] 79) :=
  Fn.of_calls Tryz.func67 (by decide +kernel) rfl (((callsIn_wide (n := 5)).1 (Tryz.maps_Keys_67 mb w)).mono fun e w' ⟨h1, h2⟩ => ⟨_, h1, rfl, h2⟩)
theorem sortedN_fn (w : World) : Fn Tryz.prog 66 #[.func (.func 108) #[] #[.pointer (some ⟨w.heap.size, 0, none⟩)]] (w.alloc (.cells #[.map none] 79)) fun r w' => w'.ownsRow w.heap.size 9 1 r 0 [] ∧ Below w.heap.size w w' := by
  refine Fn.of_calls Tryz.func66 (by decide +kernel) rfl (((callsIn_wide (n := 5)).1 (Tryz.slices_Sorted_keys_nil_66_67 w)).mono fun e w' ⟨v, ss, h1, h2, h3, h4, h5⟩ => ?_)
  subst h2
  exact ⟨v, h1, by simpa using own_mono h3 (by simp), ((Below.refl _ w).alloc (Nat.le_refl _) _).trans (h5.mono (by simp))⟩
theorem sorted_fn {m : Nat} {fs : List Fv} (w : World) (hm : Mp Tryz.prog 9 w m (fs.map Fv.ent)) (hl : fs.length ≤ 256) (hn : ∀ f ∈ fs, f.nm.size ≤ 1000000) :
    Fn Tryz.prog 66 #[.func (.func 108) #[] #[.pointer (some ⟨w.heap.size, 0, none⟩)]] (w.alloc (.cells #[.map (some m)] 79)) fun r w' => w'.ownsRow w.heap.size 9 1 r fs.length ((names (fs.map Fv.fl)).map encStr) ∧ Below w.heap.size w w' := by
  obtain ⟨D, hD, hs, hp⟩ := own_files hm hl hn
  refine Fn.of_calls Tryz.func66 (by decide +kernel) rfl (((callsIn_wide (n := 5)).1 (Tryz.slices_Sorted_keys_66_67 m 256 D noR w hD (by simp only [maxLen]; omega) (by omega))).mono fun e w' ⟨v, ss, h1, h2, h3, h4, h5⟩ => ?_)
  have hpp := h2.trans hp
  have e1 : ss.mergeSort (fun x y => decide (x ≤ y)) = names (fs.map Fv.fl) := by
    rw [names, mergeSort_of_perm hpp, List.map_map]; rfl
  have e2 : ss.length = fs.length := by have := hpp.length_eq; simpa using this
  rw [e1, e2] at h3
  exact ⟨v, h1, own_mono h3 (by simp), ((Below.refl _ w).alloc (Nat.le_refl _) _).trans (h5.mono (by simp))⟩
set_option maxHeartbeats 1000000 in
theorem list_fn {B b room : Nat} {S : List Fl} {F : List Res} {w0 w : World} (hD : DkS B w0 w b room S F) :
    Fn Tryz.prog 23 #[ptr b] w fun r w' => DkS B w0 w' b room S (.row 9 1 r S.length ((names S).map encStr) :: F) := by
  obtain ⟨⟨mo, fs, rfl, hok, hmo, hL⟩, hB⟩ := hD
  have hlen : (names (fs.map Fv.fl)).length = fs.length := by simp [names]
  have h256 := hok.len
  refine Fn.mk Tryz.func23 rfl (by kernel_rfl) Tryz.ntmps23 rfl (by rw [Tryz.results23]) ?_
  cases mo with
  | none =>
    obtain rfl := hmo rfl
    simp only [dkRes, mRes, List.map_nil, List.nil_append, List.cons_append] at hL
    repeat (first | (refine RunH ?_; intro w hL hB; try clear w) | (refine Both.mk ?_ ?_ <;> conv => whnf) | fail)
    refine (keys_fn none w).mono fun r w1 ⟨hr, hw⟩ => ?_
    subst hr; subst hw
    conv => whnf
    repeat (first | (refine RunH ?_; intro w hL hB; try clear w) | (refine Both.mk ?_ ?_ <;> conv => whnf) | fail)
    refine (sortedN_fn w).mono fun r w ⟨ho, hw⟩ => ?_
    replace hL := hL.addRow hB hw ho
    replace hB := Nat.le_trans hB hw.size
    obtain ⟨ra, rc, rfl⟩ := (show SlN w 1 r _ _ from hL.rowN (i := 0) rfl).shape
    conv => whnf
    repeat (first | (refine RunH ?_; intro w hL hB; try clear w) | (refine Both.mk ?_ ?_ <;> conv => whnf) | fail)
    exact DkS.mk' (mo := none) (fs := []) hok hmo rfl (hL.perm (by rw [show names (([] : List Fv).map Fv.fl) = [] by simp [names]]; exact .swap _ _ _)) hB
  | some m =>
    simp only [dkRes, mRes, List.nil_append, List.cons_append] at hL
    repeat (first | (refine RunH ?_; intro w hL hB; try clear w) | (refine Both.mk ?_ ?_ <;> conv => whnf) | fail)
    refine (keys_fn (some m) w).mono fun r w1 ⟨hr, hw⟩ => ?_
    subst hr; subst hw
    conv => whnf
    repeat (first | (refine RunH ?_; intro w hL hB; try clear w) | (refine Both.mk ?_ ?_ <;> conv => whnf) | fail)
    refine (sorted_fn w (hL.at (i := 1) rfl) h256 (fun f hf => by have := (hok.nm f hf).2; omega)).mono fun r w ⟨ho, hw⟩ => ?_
    replace hL := hL.addRow hB hw ho
    replace hB := Nat.le_trans hB hw.size
    obtain ⟨ra, rc, rfl⟩ := (show SlN w 1 r _ _ from hL.rowN (i := 0) rfl).shape
    conv => whnf
    repeat (first | (refine RunH ?_; intro w hL hB; try clear w) | (refine Both.mk ?_ ?_ <;> conv => whnf) | fail)
    refine DkS.mk' (mo := some m) (fs := fs) hok hmo rfl (hL.perm ?_) hB
    rw [List.length_map]
    exact (bring (A := [_, _]) (C := fs.map Fv.row)).symm
end Go.Proofs.YtladfadcgfdbfaaGreatDoor
