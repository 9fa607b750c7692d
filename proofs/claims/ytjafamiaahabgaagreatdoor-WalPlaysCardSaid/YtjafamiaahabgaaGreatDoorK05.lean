/- disk: the methods on one file. disk: Read, Sync, Used, Remove. Nothing is claimed here. -/
import Derived.Test.YtjafamiaahabgaaGreatDoorK04
namespace Go.Proofs.YtjafamiaahabgaaGreatDoor
open Go.RowKit
open Go.Maps (Keyed)
set_option linter.unusedVariables false
set_option linter.unusedSimpArgs false
set_option maxRecDepth 100000

/-- a file, as it is seen -/
structure Fl where
  nm : ByteArray
  d : List UInt8
  la : Nat
def Fv.fl (f : Fv) : Fl := ⟨f.nm, f.d, f.la⟩
def totS (S : List Fl) : Nat := (S.map (·.d.length)).sum
def getS : List Fl → ByteArray → Option Fl
  | [], _ => none
  | f :: fs, nm => if f.nm = nm then some f else getS fs nm
def putS : List Fl → Fl → List Fl
  | [], g => [g]
  | f :: fs, g => if f.nm = g.nm then g :: fs else f :: putS fs g
def delS : List Fl → ByteArray → List Fl
  | [], _ => []
  | f :: fs, nm => if f.nm = nm then fs else f :: delS fs nm
theorem getF_fl : ∀ (fs : List Fv) (nm : ByteArray), getS (fs.map Fv.fl) nm = (getF fs nm).map Fv.fl
  | [], _ => rfl
  | f :: fs, nm => by
    simp only [List.map_cons, getS, getF, getF_fl fs nm, Fv.fl]
    split <;> rfl
theorem putF_fl : ∀ (fs : List Fv) (g : Fv), (putF fs g).map Fv.fl = putS (fs.map Fv.fl) g.fl
  | [], _ => rfl
  | f :: fs, g => by
    simp only [List.map_cons, putS, putF, Fv.fl]
    split
    · rfl
    · simp only [List.map_cons, putF_fl fs g, Fv.fl]
theorem delF_fl : ∀ (fs : List Fv) (nm : ByteArray), (delF fs nm).map Fv.fl = delS (fs.map Fv.fl) nm
  | [], _ => rfl
  | f :: fs, nm => by
    simp only [List.map_cons, delS, delF, Fv.fl]
    split
    · rfl
    · simp only [List.map_cons, delF_fl fs nm, Fv.fl]
theorem put_perm : ∀ (fs : List Fv) (g : Fv), ((putF fs g).map Fv.row).Perm (g.row :: (delF fs g.nm).map Fv.row)
  | [], g => .refl _
  | f :: fs, g => by
    simp only [putF, delF]
    split
    · exact .refl _
    · exact ((put_perm fs g).cons f.row).trans (.swap _ _ _)
theorem get_perm : ∀ {fs : List Fv} {nm : ByteArray} {f : Fv}, getF fs nm = some f → (fs.map Fv.row).Perm (f.row :: (delF fs nm).map Fv.row)
  | f :: fs, nm, g, h => by
    simp only [getF] at h
    simp only [delF]
    split
    · rename_i hn
      rw [if_pos hn] at h
      injection h with h; subst h
      exact .refl _
    · rename_i hn
      rw [if_neg hn] at h
      exact ((get_perm h).cons f.row).trans (.swap _ _ _)

theorem putF_mem : ∀ {fs : List Fv} {g x : Fv}, x ∈ putF fs g → x = g ∨ x ∈ fs
  | [], g, x, h => by simp [putF] at h; exact .inl h
  | f :: fs, g, x, h => by
    simp only [putF] at h
    split at h
    · rcases List.mem_cons.1 h with h | h
      · exact .inl h
      · exact .inr (by simp [h])
    · rcases List.mem_cons.1 h with h | h
      · exact .inr (by simp [h])
      · rcases putF_mem h with h | h
        · exact .inl h
        · exact .inr (by simp [h])
theorem putF_nd {fs : List Fv} {g : Fv} (h : (fs.map (·.nm)).Nodup) : ((putF fs g).map (·.nm)).Nodup := by
  cases hg : getF fs g.nm with
  | none =>
    have hn := getF_none hg
    rw [putF_none hn, List.map_append, List.nodup_append]
    refine ⟨h, by simp, fun a ha b hb e => ?_⟩
    simp at hb; subst hb; subst e
    obtain ⟨f, hf, he⟩ := List.mem_map.1 ha
    exact hn f hf he
  | some f =>
    obtain ⟨A, C, rfl, h1, h2⟩ := getF_some hg
    rw [putF_split h2 h1]
    simpa [h1] using h
theorem delF_sub : ∀ (fs : List Fv) (nm : ByteArray), (delF fs nm).Sublist fs
  | [], _ => .slnil
  | f :: fs, nm => by
    simp only [delF]
    split
    · exact .cons _ (.refl _)
    · exact .cons_cons _ (delF_sub fs nm)
theorem tot_del : ∀ (fs : List Fv) (nm : ByteArray), tot (delF fs nm) + oldN fs nm = tot fs
  | [], nm => by simp [delF, tot, oldN, getF]
  | f :: fs, nm => by
    have ih := tot_del fs nm
    unfold delF oldN getF
    by_cases h : f.nm = nm
    · simp only [if_pos h, tot, List.map_cons, List.sum_cons]; omega
    · simp only [if_neg h, tot, List.map_cons, List.sum_cons]
      unfold oldN at ih
      simp only [tot] at ih
      omega

theorem dk_shape {B b room used : Nat} {mo : Option Nat} {w0 w : World} {F : List Res} {fs : List Fv} (hL : Sep Tryz.prog B w0 w (dkRes b room used mo fs ++ F)) {f : Fv} (hf : f ∈ fs) : ∃ a c, f.v = .slice a f.d.length c :=
  row_shape (X := _ :: mRes mo fs) (F := F) (by simpa [dkRes] using hL) hf
theorem ofV_some {fs : List Fv} {nm : ByteArray} {f : Fv} {a : Option Addr} {c : Nat} (h : getF fs nm = some f) (hv : f.v = .slice a f.d.length c) : ofV fs nm = .tuple #[.agg #[.slice a f.d.length c, .int .i64 (f.la : Int)], .bool true] := by rw [ofV, h]; simp only [hv]
theorem ofV_none {fs : List Fv} {nm : ByteArray} (h : getF fs nm = none) : ofV fs nm = .tuple #[.agg #[.slice none 0 0, .int .i64 0], .bool false] := by rw [ofV, h]
theorem Sep.nilC {P : Program} {B : Nat} {w0 w : World} {L : List Res} (h : Sep P B w0 w L) (e : TypeId) : Sep P B w0 w (.rc e (.slice none 0 0) 0 [] :: L) :=
  ⟨h.below, fun Q hQ => by
    rcases List.mem_cons.1 hQ with rfl | hQ
    · exact RowC.nil w e
    · exact h.hold Q hQ, fun Q hQ => by
    rcases List.mem_cons.1 hQ with rfl | hQ
    · simp [Res.blocks, Value.ownBlock, rowB]
    · exact h.own Q hQ, by simpa [Res.blocks, Value.ownBlock, rowB] using h.apart⟩
theorem Rv.lenNil {w : World} {K : Value → World → Prop} {ty : TypeId} (hk : K (.int .i64 0) w) : Rv Tryz.prog (Builtin.len_ #[60] ty #[.map none]) w K := by
  refine Rv.mk (w' := w) (v := .int .i64 0) ?_ hk
  simp [Builtin.len_, run_underlying (und_map ttOk tl60), goInt]
theorem Rv.fileOk {B : Nat} {w0 w : World} {L : List Res} (hL : Sep Tryz.prog B w0 w L) {K : Value → World → Prop} (n : Nat) {m : Nat} {fs : List Fv} {nm : ByteArray} (hn : L[n]? = some (.mp 9 m (fs.map Fv.ent))) (hnd : (fs.map (·.nm)).Nodup) (hg : Good Tryz.prog 9 (.string nm)) (hk : K (.tuple #[fileV fs nm, .bool (getF fs nm).isSome]) w) :
    Rv Tryz.prog (Instr.lookup 60 (.map (some m)) (.string nm) true) w K := by
  refine Rv.seekOkS ttOk hL strK n tl60 tl86 hn hg fun u ok hgot => ?_
  rcases got_files hnd hgot with ⟨f, hf, rfl, rfl⟩ | ⟨hf, rfl, rfl⟩
  · rw [fileV, hf] at hk; exact hk
  · rw [fileV, hf] at hk; exact hk

/-- files that a disk may hold -/
structure OkF (room : Nat) (fs : List Fv) : Prop where
  nd : (fs.map (·.nm)).Nodup
  la : ∀ f ∈ fs, f.la ≤ f.d.length
  tot : tot fs ≤ room
  room : room ≤ 1073741824
  nm : ∀ f ∈ fs, 1 ≤ f.nm.size ∧ f.nm.size ≤ 64
  len : fs.length ≤ 256
theorem putF_len (fs : List Fv) (g : Fv) : (putF fs g).length = if (getF fs g.nm).isSome then fs.length else fs.length + 1 := by
  cases h : getF fs g.nm with
  | none => rw [putF_none (getF_none h)]; simp
  | some f =>
    obtain ⟨A, C, rfl, h1, h2⟩ := getF_some h
    rw [putF_split h2 h1]; simp
theorem OkF.put {room : Nat} {fs : List Fv} (h : OkF room fs) {g : Fv} (h1 : g.la ≤ g.d.length) (h2 : 1 ≤ g.nm.size ∧ g.nm.size ≤ 64) (h3 : Go.Proofs.YtjafamiaahabgaaGreatDoor.tot fs + g.d.length ≤ room + oldN fs g.nm) (h4 : (getF fs g.nm).isSome = true ∨ fs.length < 256) : OkF room (putF fs g) := by
  refine ⟨putF_nd h.nd, fun f hf => ?_, ?_, h.room, fun f hf => ?_, ?_⟩
  · rcases putF_mem hf with rfl | hf
    · exact h1
    · exact h.la f hf
  · have := tot_put fs g
    omega
  · rcases putF_mem hf with rfl | hf
    · exact h2
    · exact h.nm f hf
  · rw [putF_len]
    have := h.len
    split
    · exact this
    · rename_i hn
      rcases h4 with h4 | h4
      · exact absurd h4 hn
      · omega
theorem OkF.del {room : Nat} {fs : List Fv} (h : OkF room fs) (nm : ByteArray) : OkF room (delF fs nm) := by
  have hs := delF_sub fs nm
  have ht := tot_del fs nm
  exact ⟨h.nd.sublist (hs.map _), fun f hf => h.la f (hs.subset hf), by have := h.tot; omega, h.room, fun f hf => h.nm f (hs.subset hf), Nat.le_trans hs.length_le h.len⟩

/-- a disk of one's own, in block b: its room, its files -/
structure DkS (B : Nat) (w0 w : World) (b room : Nat) (S : List Fl) (F : List Res) : Prop where
  of : ∃ mo fs, fs.map Fv.fl = S ∧ OkF room fs ∧ (mo = none → fs = []) ∧ Sep Tryz.prog B w0 w (dkRes b room (tot fs) mo fs ++ F)
  hB : B ≤ w.heap.size
theorem DkS.mk' {B : Nat} {w0 w : World} {b room used : Nat} {F : List Res} {mo : Option Nat} {fs : List Fv} (h : OkF room fs) (hmo : mo = none → fs = []) (hu : used = tot fs) (hL : Sep Tryz.prog B w0 w (dkRes b room used mo fs ++ F)) (hB : B ≤ w.heap.size) : DkS B w0 w b room (fs.map Fv.fl) F :=
  ⟨⟨mo, fs, rfl, h, hmo, hu ▸ hL⟩, hB⟩
theorem DkS.rest {B : Nat} {w0 w : World} {b room : Nat} {S : List Fl} {F : List Res} (h : DkS B w0 w b room S F) : Sep Tryz.prog B w0 w F := by
  obtain ⟨mo, fs, _, _, _, hL⟩ := h.of
  exact hL.sub (List.sublist_append_right _ _)

theorem new_fn (room : Int) {B : Nat} {w0 w : World} {F : List Res} (hL : Sep Tryz.prog B w0 w F) (hB : B ≤ w.heap.size) :
    Fn Tryz.prog 7 #[.int .i64 room] w fun r w' => (0 ≤ room ∧ room ≤ 1073741824 → ∃ b, r = .tuple #[ptr b, .int .i64 0] ∧ DkS B w0 w' b room.toNat [] F) ∧ (¬ (0 ≤ room ∧ room ≤ 1073741824) → r = .tuple #[.pointer none, .int .i64 1] ∧ w' = w) := by
  refine Fn.mk Tryz.func7 rfl (by kernel_rfl) Tryz.ntmps7 rfl (by rw [Tryz.results7]) ?_
  by_cases h1 : room < 0
  · refine RunR ?_
    exact ⟨fun h => by omega, fun _ => ⟨rfl, rfl⟩⟩
  by_cases h2 : 1073741824 < room
  · refine RunR ?_
    exact ⟨fun h => by omega, fun _ => ⟨rfl, rfl⟩⟩
  · repeat (first | (refine RunH ?_; intro w hL hB; try clear w) | (refine Both.mk ?_ ?_ <;> conv => whnf) | (refine Nw.sep hL hB (fun b w hL hB hb => ?_); conv => whnf) | fail)
    refine ⟨fun h => ?_, fun h => by omega⟩
    have e : room = ((room.toNat : Nat) : Int) := by omega
    rw [e] at hL
    exact ⟨b, rfl, DkS.mk' (mo := none) (fs := []) (used := 0) ⟨by simp, by simp, by simp [tot], by omega, by simp, by simp⟩ (fun _ => rfl) rfl hL hB⟩

/-- the row of a file, taken out -/
theorem dk_take {B b room used : Nat} {mo : Option Nat} {w0 w : World} {F : List Res} {fs : List Fv} {nm : ByteArray} {f : Fv} (hf : getF fs nm = some f) (hL : Sep Tryz.prog B w0 w (dkRes b room used mo fs ++ F)) :
    Sep Tryz.prog B w0 w (f.row :: .blk b [.int .i64 (room : Int), .int .i64 (used : Int), .map mo] 62 :: (mRes mo fs ++ ((delF fs nm).map Fv.row ++ F))) := by
  refine hL.perm ?_
  unfold dkRes
  rw [List.cons_append, List.append_assoc]
  refine List.Perm.trans ?_ (.swap _ _ _)
  refine .cons _ ?_
  have h1 : (fs.map Fv.row ++ F).Perm (f.row :: ((delF fs nm).map Fv.row ++ F)) := (get_perm hf).append_right F
  exact (h1.append_left _).trans List.perm_middle
theorem dk_untake {B b room used : Nat} {mo : Option Nat} {w0 w : World} {F : List Res} {fs : List Fv} {nm : ByteArray} {f : Fv} (hf : getF fs nm = some f) 
    (hL : Sep Tryz.prog B w0 w (f.row :: .blk b [.int .i64 (room : Int), .int .i64 (used : Int), .map mo] 62 :: (mRes mo fs ++ ((delF fs nm).map Fv.row ++ F)))) : Sep Tryz.prog B w0 w (dkRes b room used mo fs ++ F) := by
  refine hL.perm ?_
  unfold dkRes
  rw [List.cons_append, List.append_assoc]
  refine List.Perm.trans (.swap _ _ _) ?_
  refine .cons _ ?_
  have h1 : (fs.map Fv.row ++ F).Perm (f.row :: ((delF fs nm).map Fv.row ++ F)) := (get_perm hf).append_right F
  exact ((h1.append_left _).trans List.perm_middle).symm
/-- .. and laid back -/
theorem dk_back {B b room used : Nat} {m : Nat} {w0 w : World} {F : List Res} {fs : List Fv} {g : Fv} (hL : Sep Tryz.prog B w0 w (g.row :: .blk b [.int .i64 (room : Int), .int .i64 (used : Int), .map (some m)] 62 :: .mp 9 m ((putF fs g).map Fv.ent) :: ((delF fs g.nm).map Fv.row ++ F))) :
    Sep Tryz.prog B w0 w (dkRes b room used (some m) (putF fs g) ++ F) := by
  refine hL.perm ?_
  unfold dkRes mRes
  simp only [List.cons_append, List.nil_append]
  refine List.Perm.trans (.swap _ _ _) (.cons _ (List.Perm.trans (.swap _ _ _) (.cons _ ?_)))
  exact ((put_perm fs g).append_right F).symm

def appE (room : Nat) (S : List Fl) (nm : ByteArray) (n : Nat) : Nat :=
  if ¬ (1 ≤ nm.size ∧ nm.size ≤ 64) then 1 else if ((getS S nm).isNone ∧ 256 ≤ S.length) ∨ room < totS S + n then 6 else 0
def appF (S : List Fl) (nm : ByteArray) (xs : List UInt8) : Fl := match getS S nm with
  | some f => ⟨nm, f.d ++ xs, f.la⟩
  | none => ⟨nm, xs, 0⟩
def appS (room : Nat) (S : List Fl) (nm : ByteArray) (xs : List UInt8) : List Fl := if appE room S nm xs.length = 0 then putS S (appF S nm xs) else S
theorem tot_fl (fs : List Fv) : totS (fs.map Fv.fl) = tot fs := by simp [totS, tot, Function.comp_def, Fv.fl]

theorem app_end {B b room : Nat} {fs : List Fv} {F : List Res} {nm : ByteArray} {va : Option Addr} {vc m ola : Nat} {od xs : List UInt8} {w0 w : World} (hok : OkF room fs) (hn : 1 ≤ nm.size ∧ nm.size ≤ 64) (hla : ola ≤ od.length) (hold : od.length = oldN fs nm) (h256 : (getF fs nm).isSome = true ∨ fs.length < 256) (hfit : tot fs + xs.length ≤ room)
    (hL : Sep Tryz.prog B w0 w (.rc 5 (.slice va (od.length + xs.length) vc) (od.length + xs.length) (bv od ++ bv xs) :: .blk b [.int .i64 (room : Int), .int .i64 ((tot fs : Int) + (xs.length : Int)), .map (some m)] 62 ::
      .mp 9 m ((putF fs ⟨nm, .slice va (od.length + xs.length) vc, od ++ xs, ola⟩).map Fv.ent) :: ((delF fs nm).map Fv.row ++ F))) (hB : B ≤ w.heap.size) : DkS B w0 w b room (putS (fs.map Fv.fl) ⟨nm, od ++ xs, ola⟩) F := by
  have hg : (⟨nm, od ++ xs, ola⟩ : Fl) = (⟨nm, .slice va (od.length + xs.length) vc, od ++ xs, ola⟩ : Fv).fl := rfl
  rw [hg, ← putF_fl]
  have ht := tot_put fs ⟨nm, .slice va (od.length + xs.length) vc, od ++ xs, ola⟩
  simp only [List.length_append] at ht
  refine DkS.mk' (mo := some m) (used := tot fs + xs.length) (hok.put (by simp only [List.length_append]; omega) hn (by simp only [List.length_append]; omega) h256) (fun h => by cases h) (by omega) (dk_back (m := m) ?_) hB
  have e : Fv.row ⟨nm, .slice va (od.length + xs.length) vc, od ++ xs, ola⟩ = .rc 5 (.slice va (od.length + xs.length) vc) (od.length + xs.length) (bv od ++ bv xs) := by simp [Fv.row, bv_append]
  rw [e]
  simpa using hL
set_option maxHeartbeats 2000000 in
theorem append_fn {B b room : Nat} {S : List Fl} {F : List Res} (nm : ByteArray) (hnm : nm.size ≤ 1000000) (p : Value) (xs : List UInt8) {w0 w : World} (hp : ∀ w', Sep Tryz.prog B w0 w' F → Sl w' p (bv xs)) (hD : DkS B w0 w b room S F) :
    Fn Tryz.prog 20 #[ptr b, .string nm, p] w fun r w' => r = .int .i64 (appE room S nm xs.length : Nat) ∧ DkS B w0 w' b room (appS room S nm xs) F := by
  obtain ⟨⟨mo, fs, rfl, hok, hmo, hL⟩, hB⟩ := hD
  have hg := strGood hnm
  have hp0 := hp w (hL.sub (List.sublist_append_right _ _))
  obtain ⟨pa, pc, rfl⟩ := hp0.shape
  have hle := hp0.le
  simp only [bv_length] at hp hp0 hle ⊢
  have hpN : ∀ w', Sep Tryz.prog B w0 w' F → SlN w' 1 (.slice pa xs.length pc) xs.length (bv xs) := fun w' h => by have := (hp w' h).toN; simpa using this
  have htot := tot_fl fs
  have hgf := getF_fl fs nm
  have hrm := hok.room
  have htr := hok.tot
  by_cases hn : 1 ≤ nm.size ∧ nm.size ≤ 64
  case neg =>
    have e1 : appE room (fs.map Fv.fl) nm xs.length = 1 := by rw [appE, if_pos hn]
    have e2 : appS room (fs.map Fv.fl) nm xs = fs.map Fv.fl := by rw [appS, e1]; rfl
    rw [e1, e2]
    refine Fn.mk Tryz.func20 rfl (by kernel_rfl) Tryz.ntmps20 rfl (by rw [Tryz.results20]) ?_
    repeat (first | (refine RunH ?_; intro w hL hB; try clear w) | (refine Both.mk ?_ ?_ <;> conv => whnf) | (refine (isName_fn nm hnm _).mono fun r w1 hr => ?_; obtain ⟨hr, hw⟩ := hr; subst hr; subst hw; conv => whnf) | fail)
    exact ⟨rfl, DkS.mk' hok hmo rfl hL hB⟩
  cases mo with
  | none =>
    obtain rfl := hmo rfl
    have hl0 : ([] : List Fv).length = 0 := rfl
    have ht0 : tot [] = 0 := rfl
    simp only [dkRes, mRes, List.map_nil, List.nil_append, List.cons_append] at hL
    replace hL := hL.nilC 5
    by_cases hfull : room < xs.length
    · have e1 : appE room (([] : List Fv).map Fv.fl) nm xs.length = 6 := by rw [appE, if_neg (fun h => h hn), if_pos]; rw [htot, ht0]; exact .inr (by omega)
      have e2 : appS room (([] : List Fv).map Fv.fl) nm xs = ([] : List Fv).map Fv.fl := by rw [appS, e1]; rfl
      rw [e1, e2]
      refine Fn.mk Tryz.func20 rfl (by kernel_rfl) Tryz.ntmps20 rfl (by rw [Tryz.results20]) ?_
      repeat (first | (refine RunK ?_; intro w hL hB; try clear w) | (refine V.treeA ttOk hL (.q 0 (.q 1 (.q 2 (.q 3 (.q 4 (.q 5 (.q 6 (.q 7 (.q 8 (.q 9 (.q 10 (.q 11 (.q 12 (.q 13 (.q 14 (.q 15 (.q 16 (.q 17 (.q 18 (.q 19 (.q 20 (.q 21 (.q 22 (.q 23 .nil)))))))))))))))))))))))) mixed (by decide +kernel) ?_; replace hL := hL.drew; conv => whnf) | (refine V.tailA ttOk mixed (by decide +kernel) ?_; replace hL := hL.drew; conv => whnf) | (refine Both.mk ?_ ?_ <;> conv => whnf) | (refine (isName_fn nm hnm _).mono fun r w1 hr => ?_; obtain ⟨hr, hw⟩ := hr; subst hr; subst hw; conv => whnf) | (refine Br.yes (decide_eq_true hn) ?_; conv => whnf) | (refine Nw.sep hL hB (fun b7 w hL hB hb7 => ?_); conv => whnf) | (refine Rv.lookOkN ttOk strK tl60 tl86 hg ?_; conv => whnf) | (refine Rq.of_rv _ (fun x hx => Rv.lenNil ⟨rfl, rfl⟩) ?_; conv => whnf) | (refine Nw.sepM hL 9 hB (fun m w hL hB hm => ?_); conv => whnf) | fail)
      exact ⟨rfl, DkS.mk' (mo := none) hok hmo rfl hL.tl.tl hB⟩
    have e1 : appE room (([] : List Fv).map Fv.fl) nm xs.length = 0 := by rw [appE, if_neg (fun h => h hn), if_neg]; rw [htot, ht0]; simp; omega
    have e2 : appS room (([] : List Fv).map Fv.fl) nm xs = putS (([] : List Fv).map Fv.fl) ⟨nm, [] ++ xs, 0⟩ := by rw [appS, if_pos e1]; rfl
    rw [e1, e2]
    refine Fn.mk Tryz.func20 rfl (by kernel_rfl) Tryz.ntmps20 rfl (by rw [Tryz.results20]) ?_
    repeat (first | (refine RunK ?_; intro w hL hB; try clear w) | (refine V.treeA ttOk hL (.q 0 (.q 1 (.q 2 (.q 3 (.q 4 (.q 5 (.q 6 (.q 7 (.q 8 (.q 9 (.q 10 (.q 11 (.q 12 (.q 13 (.q 14 (.q 15 (.q 16 (.q 17 (.q 18 (.q 19 (.q 20 (.q 21 (.q 22 (.q 23 .nil)))))))))))))))))))))))) mixed (by decide +kernel) ?_; replace hL := hL.drew; conv => whnf) | (refine V.tailA ttOk mixed (by decide +kernel) ?_; replace hL := hL.drew; conv => whnf) | (refine Both.mk ?_ ?_ <;> conv => whnf) | (refine (isName_fn nm hnm _).mono fun r w1 hr => ?_; obtain ⟨hr, hw⟩ := hr; subst hr; subst hw; conv => whnf) | (refine Br.yes (decide_eq_true hn) ?_; conv => whnf) | (refine Nw.sep hL hB (fun b7 w hL hB hb7 => ?_); conv => whnf) | (refine Rv.lookOkN ttOk strK tl60 tl86 hg ?_; conv => whnf) | (refine Rq.of_rv _ (fun x hx => Rv.lenNil ⟨rfl, rfl⟩) ?_; conv => whnf) | (refine Nw.sepM hL 9 hB (fun m w hL hB hm => ?_); conv => whnf) | fail)
    refine Rv.appendC ttOk hL tl23 tl5 rfl 1 rfl (hpN _ (hL.sub (.cons _ (.cons _ (.cons _ (.refl _)))))) (bv_one _) (by simp only [maxLen]; omega) (by omega) hB fun v' w hL hB => ?_
    obtain ⟨va, vc, rfl⟩ : ∃ a c, v' = .slice a (0 + xs.length) c := RowC.shape (show RowC w 5 v' _ _ from hL.at (i := 1) rfl)
    dsimp only [List.set] at hL
    conv => whnf
    repeat (first | (refine RunK ?_; intro w hL hB; try clear w) | (refine V.treeA ttOk hL (.q 0 (.q 1 (.q 2 (.q 3 (.q 4 (.q 5 (.q 6 (.q 7 (.q 8 (.q 9 (.q 10 (.q 11 (.q 12 (.q 13 (.q 14 (.q 15 (.q 16 (.q 17 (.q 18 (.q 19 (.q 20 (.q 21 (.q 22 (.q 23 .nil)))))))))))))))))))))))) mixed (by decide +kernel) ?_; replace hL := hL.drew; conv => whnf) | (refine V.tailA ttOk mixed (by decide +kernel) ?_; replace hL := hL.drew; conv => whnf) | (refine Both.mk ?_ ?_ <;> conv => whnf) | (refine (isName_fn nm hnm _).mono fun r w1 hr => ?_; obtain ⟨hr, hw⟩ := hr; subst hr; subst hw; conv => whnf) | (refine Br.yes (decide_eq_true hn) ?_; conv => whnf) | (refine Nw.sep hL hB (fun b7 w hL hB hb7 => ?_); conv => whnf) | (refine Rv.lookOkN ttOk strK tl60 tl86 hg ?_; conv => whnf) | (refine Rq.of_rv _ (fun x hx => Rv.lenNil ⟨rfl, rfl⟩) ?_; conv => whnf) | (refine Nw.sepM hL 9 hB (fun m w hL hB hm => ?_); conv => whnf) | fail)
    refine Ru.putS (v := (⟨nm, .slice va (0 + xs.length) vc, xs, 0⟩ : Fv).val) ttOk hL strK 0 tl60 rfl hg hB (fun w l' hput hL hB => ?_)
    conv => whnf
    repeat (first | (refine RunH ?_; intro w hL hB; try clear w) | (refine Both.mk ?_ ?_ <;> conv => whnf) | fail)
    obtain rfl := put_files (fs := []) (g := ⟨nm, .slice va (0 + xs.length) vc, xs, 0⟩) (by simp) hput
    exact ⟨rfl, app_end (fs := []) (od := []) hok hn (by simp) rfl (.inr (by simp)) (by rw [ht0]; omega) ((hL.sub (.cons_cons _ (.cons _ (.cons_cons _ (.cons_cons _ (.refl _)))))).perm ((List.Perm.swap _ _ _).trans (.cons _ (.swap _ _ _)))) hB⟩
  | some m =>
    obtain ⟨oa, oc, od, ola, hfile, hla, hold, happ, hL, back⟩ : ∃ oa oc od ola, fileV fs nm = .agg #[.slice oa (List.length od) oc, .int .i64 ((ola : Nat) : Int)] ∧ ola ≤ od.length ∧ od.length = oldN fs nm ∧ appF (fs.map Fv.fl) nm xs = ⟨nm, od ++ xs, ola⟩ ∧
        Sep Tryz.prog B w0 w (.rc 5 (.slice oa od.length oc) od.length (bv od) :: .blk b [.int .i64 (room : Int), .int .i64 (tot fs : Int), .map (some m)] 62 :: .mp 9 m (fs.map Fv.ent) :: ((delF fs nm).map Fv.row ++ F)) ∧ ∀ {w : World}, Sep Tryz.prog B w0 w (.rc 5 (.slice oa od.length oc) od.length (bv od) :: .blk b [.int .i64 (room : Int), .int .i64 (tot fs : Int), .map (some m)] 62 :: .mp 9 m (fs.map Fv.ent) :: ((delF fs nm).map Fv.row ++ F)) → Sep Tryz.prog B w0 w (dkRes b room (tot fs) (some m) fs ++ F) := by
      cases hf : getF fs nm with
      | none =>
        refine ⟨none, 0, [], 0, ?_, by simp, ?_, ?_, ?_, ?_⟩
        · rw [fileV, hf]; rfl
        · rw [oldN, hf]; rfl
        · rw [appF, hgf, hf]; rfl
        · rw [delF_none (getF_none hf)]
          exact hL.nilC _
        · rw [delF_none (getF_none hf)]
          exact fun h => h.tl
      | some f =>
        obtain ⟨a, c, hv⟩ := dk_shape hL (getF_mem hf)
        have hm := hok.la f (getF_mem hf)
        obtain ⟨_, _, _, hfn, _⟩ := getF_some hf
        have ht := dk_take hf hL
        refine ⟨a, c, f.d, f.la, ?_, hm, ?_, ?_, ?_, ?_⟩
        · rw [fileV, hf]; simp only [Fv.val, hv]
        · rw [oldN, hf]
        · rw [appF, hgf, hf]; rfl
        · rw [← hv]; exact ht
        · rw [← hv]; exact fun h => dk_untake hf h
    have hlt := oldN_le fs nm
    have hfl : fs.length = (fs.map Fv.fl).length := by simp
    have hiso : (getS (fs.map Fv.fl) nm).isNone = ! (getF fs nm).isSome := by rw [hgf]; cases getF fs nm <;> rfl
    by_cases hfull : ((getF fs nm).isSome = false ∧ 256 ≤ fs.length) ∨ room < tot fs + xs.length
    · have e1 : appE room (fs.map Fv.fl) nm xs.length = 6 := by rw [appE, if_neg (fun h => h hn), if_pos]; rw [hiso, ← hfl, htot]; simpa using hfull
      have e2 : appS room (fs.map Fv.fl) nm xs = fs.map Fv.fl := by rw [appS, e1]; rfl
      rw [e1, e2]
      refine Fn.mk Tryz.func20 rfl (by kernel_rfl) Tryz.ntmps20 rfl (by rw [Tryz.results20]) ?_
      cases hk : (getF fs nm).isSome with
      | true =>
        have hx : room < tot fs + xs.length := by simpa [hk] using hfull
        repeat (first | (refine RunK ?_; intro w hL hB; try clear w) | (refine V.treeA ttOk hL (.q 0 (.q 1 (.q 2 (.q 3 (.q 4 (.q 5 (.q 6 (.q 7 (.q 8 (.q 9 (.q 10 (.q 11 (.q 12 (.q 13 (.q 14 (.q 15 (.q 16 (.q 17 (.q 18 (.q 19 (.q 20 (.q 21 (.q 22 (.q 23 .nil)))))))))))))))))))))))) mixed (by decide +kernel) ?_; replace hL := hL.drew; conv => whnf) | (refine V.tailA ttOk mixed (by decide +kernel) ?_; replace hL := hL.drew; conv => whnf) | (refine Both.mk ?_ ?_ <;> conv => whnf) | (refine (isName_fn nm hnm _).mono fun r w1 hr => ?_; obtain ⟨hr, hw⟩ := hr; subst hr; subst hw; conv => whnf) | (refine Br.yes (decide_eq_true hn) ?_; conv => whnf) | (refine Nw.sep hL hB (fun b7 w hL hB hb7 => ?_); conv => whnf) | (refine Rv.fileOk hL 2 rfl hok.nd hg ?_; rw [hfile, hk]; conv => whnf) | (refine Rq.of_rv _ (fun x hx => Rv.mlen ttOk tl60 (hx.at (i := 3) rfl) ⟨rfl, rfl⟩) ?_; rw [List.length_map]; conv => whnf) | fail)
        exact ⟨rfl, DkS.mk' hok hmo rfl (back hL.tl) hB⟩
      | false =>
        by_cases h256 : 256 ≤ fs.length
        · repeat (first | (refine RunK ?_; intro w hL hB; try clear w) | (refine V.treeA ttOk hL (.q 0 (.q 1 (.q 2 (.q 3 (.q 4 (.q 5 (.q 6 (.q 7 (.q 8 (.q 9 (.q 10 (.q 11 (.q 12 (.q 13 (.q 14 (.q 15 (.q 16 (.q 17 (.q 18 (.q 19 (.q 20 (.q 21 (.q 22 (.q 23 .nil)))))))))))))))))))))))) mixed (by decide +kernel) ?_; replace hL := hL.drew; conv => whnf) | (refine V.tailA ttOk mixed (by decide +kernel) ?_; replace hL := hL.drew; conv => whnf) | (refine Both.mk ?_ ?_ <;> conv => whnf) | (refine (isName_fn nm hnm _).mono fun r w1 hr => ?_; obtain ⟨hr, hw⟩ := hr; subst hr; subst hw; conv => whnf) | (refine Br.yes (decide_eq_true hn) ?_; conv => whnf) | (refine Nw.sep hL hB (fun b7 w hL hB hb7 => ?_); conv => whnf) | (refine Rv.fileOk hL 2 rfl hok.nd hg ?_; rw [hfile, hk]; conv => whnf) | (refine Rq.of_rv _ (fun x hx => Rv.mlen ttOk tl60 (hx.at (i := 3) rfl) ⟨rfl, rfl⟩) ?_; rw [List.length_map]; conv => whnf) | fail)
          exact ⟨rfl, DkS.mk' hok hmo rfl (back hL.tl) hB⟩
        · have hx : room < tot fs + xs.length := by simpa [hk, h256] using hfull
          repeat (first | (refine RunK ?_; intro w hL hB; try clear w) | (refine V.treeA ttOk hL (.q 0 (.q 1 (.q 2 (.q 3 (.q 4 (.q 5 (.q 6 (.q 7 (.q 8 (.q 9 (.q 10 (.q 11 (.q 12 (.q 13 (.q 14 (.q 15 (.q 16 (.q 17 (.q 18 (.q 19 (.q 20 (.q 21 (.q 22 (.q 23 .nil)))))))))))))))))))))))) mixed (by decide +kernel) ?_; replace hL := hL.drew; conv => whnf) | (refine V.tailA ttOk mixed (by decide +kernel) ?_; replace hL := hL.drew; conv => whnf) | (refine Both.mk ?_ ?_ <;> conv => whnf) | (refine (isName_fn nm hnm _).mono fun r w1 hr => ?_; obtain ⟨hr, hw⟩ := hr; subst hr; subst hw; conv => whnf) | (refine Br.yes (decide_eq_true hn) ?_; conv => whnf) | (refine Nw.sep hL hB (fun b7 w hL hB hb7 => ?_); conv => whnf) | (refine Rv.fileOk hL 2 rfl hok.nd hg ?_; rw [hfile, hk]; conv => whnf) | (refine Rq.of_rv _ (fun x hx => Rv.mlen ttOk tl60 (hx.at (i := 3) rfl) ⟨rfl, rfl⟩) ?_; rw [List.length_map]; conv => whnf) | fail)
          exact ⟨rfl, DkS.mk' hok hmo rfl (back hL.tl) hB⟩
    have e1 : appE room (fs.map Fv.fl) nm xs.length = 0 := by rw [appE, if_neg (fun h => h hn), if_neg]; rw [hiso, ← hfl, htot]; simpa using hfull
    have e2 : appS room (fs.map Fv.fl) nm xs = putS (fs.map Fv.fl) ⟨nm, od ++ xs, ola⟩ := by rw [appS, if_pos e1, happ]
    rw [e1, e2]
    have h256 : (getF fs nm).isSome = false → fs.length < 256 := fun h => by
      refine Nat.lt_of_not_le fun h' => hfull (.inl ⟨h, h'⟩)
    have hfit : tot fs + xs.length ≤ room := Nat.le_of_not_lt fun h => hfull (.inr h)
    refine Fn.mk Tryz.func20 rfl (by kernel_rfl) Tryz.ntmps20 rfl (by rw [Tryz.results20]) ?_
    cases hk : (getF fs nm).isSome with
    | true =>
      repeat (first | (refine RunK ?_; intro w hL hB; try clear w) | (refine V.treeA ttOk hL (.q 0 (.q 1 (.q 2 (.q 3 (.q 4 (.q 5 (.q 6 (.q 7 (.q 8 (.q 9 (.q 10 (.q 11 (.q 12 (.q 13 (.q 14 (.q 15 (.q 16 (.q 17 (.q 18 (.q 19 (.q 20 (.q 21 (.q 22 (.q 23 .nil)))))))))))))))))))))))) mixed (by decide +kernel) ?_; replace hL := hL.drew; conv => whnf) | (refine V.tailA ttOk mixed (by decide +kernel) ?_; replace hL := hL.drew; conv => whnf) | (refine Both.mk ?_ ?_ <;> conv => whnf) | (refine (isName_fn nm hnm _).mono fun r w1 hr => ?_; obtain ⟨hr, hw⟩ := hr; subst hr; subst hw; conv => whnf) | (refine Br.yes (decide_eq_true hn) ?_; conv => whnf) | (refine Nw.sep hL hB (fun b7 w hL hB hb7 => ?_); conv => whnf) | (refine Rv.fileOk hL 2 rfl hok.nd hg ?_; rw [hfile, hk]; conv => whnf) | (refine Rq.of_rv _ (fun x hx => Rv.mlen ttOk tl60 (hx.at (i := 3) rfl) ⟨rfl, rfl⟩) ?_; rw [List.length_map]; conv => whnf) | fail)
      refine Rv.appendC ttOk hL tl23 tl5 rfl 1 rfl (hpN _ (hL.sub (.cons _ (.cons _ (.cons _ (.cons _ (List.sublist_append_right _ _))))))) (bv_one _) (by simp only [maxLen]; omega) (by omega) hB fun v' w hL hB => ?_
      obtain ⟨va, vc, rfl⟩ : ∃ a c, v' = .slice a (od.length + xs.length) c := RowC.shape (show RowC w 5 v' _ _ from hL.at (i := 1) rfl)
      dsimp only [List.set] at hL
      conv => whnf
      repeat (first | (refine RunH ?_; intro w hL hB; try clear w) | (refine Both.mk ?_ ?_ <;> conv => whnf) | fail)
      refine Ru.putS (v := (⟨nm, .slice va (od.length + xs.length) vc, od ++ xs, ola⟩ : Fv).val) ttOk hL strK 3 tl60 rfl hg hB (fun w l' hput hL hB => ?_)
      conv => whnf
      repeat (first | (refine RunH ?_; intro w hL hB; try clear w) | (refine Both.mk ?_ ?_ <;> conv => whnf) | fail)
      obtain rfl := put_files (g := ⟨nm, .slice va (od.length + xs.length) vc, od ++ xs, ola⟩) hok.nd hput
      exact ⟨rfl, app_end hok hn hla hold (.inl hk) hfit hL.tl hB⟩
    | false =>
      have h256' := h256 hk
      repeat (first | (refine RunK ?_; intro w hL hB; try clear w) | (refine V.treeA ttOk hL (.q 0 (.q 1 (.q 2 (.q 3 (.q 4 (.q 5 (.q 6 (.q 7 (.q 8 (.q 9 (.q 10 (.q 11 (.q 12 (.q 13 (.q 14 (.q 15 (.q 16 (.q 17 (.q 18 (.q 19 (.q 20 (.q 21 (.q 22 (.q 23 .nil)))))))))))))))))))))))) mixed (by decide +kernel) ?_; replace hL := hL.drew; conv => whnf) | (refine V.tailA ttOk mixed (by decide +kernel) ?_; replace hL := hL.drew; conv => whnf) | (refine Both.mk ?_ ?_ <;> conv => whnf) | (refine (isName_fn nm hnm _).mono fun r w1 hr => ?_; obtain ⟨hr, hw⟩ := hr; subst hr; subst hw; conv => whnf) | (refine Br.yes (decide_eq_true hn) ?_; conv => whnf) | (refine Nw.sep hL hB (fun b7 w hL hB hb7 => ?_); conv => whnf) | (refine Rv.fileOk hL 2 rfl hok.nd hg ?_; rw [hfile, hk]; conv => whnf) | (refine Rq.of_rv _ (fun x hx => Rv.mlen ttOk tl60 (hx.at (i := 3) rfl) ⟨rfl, rfl⟩) ?_; rw [List.length_map]; conv => whnf) | fail)
      refine Rv.appendC ttOk hL tl23 tl5 rfl 1 rfl (hpN _ (hL.sub (.cons _ (.cons _ (.cons _ (.cons _ (List.sublist_append_right _ _))))))) (bv_one _) (by simp only [maxLen]; omega) (by omega) hB fun v' w hL hB => ?_
      obtain ⟨va, vc, rfl⟩ : ∃ a c, v' = .slice a (od.length + xs.length) c := RowC.shape (show RowC w 5 v' _ _ from hL.at (i := 1) rfl)
      dsimp only [List.set] at hL
      conv => whnf
      repeat (first | (refine RunH ?_; intro w hL hB; try clear w) | (refine Both.mk ?_ ?_ <;> conv => whnf) | fail)
      refine Ru.putS (v := (⟨nm, .slice va (od.length + xs.length) vc, od ++ xs, ola⟩ : Fv).val) ttOk hL strK 3 tl60 rfl hg hB (fun w l' hput hL hB => ?_)
      conv => whnf
      repeat (first | (refine RunH ?_; intro w hL hB; try clear w) | (refine Both.mk ?_ ?_ <;> conv => whnf) | fail)
      obtain rfl := put_files (g := ⟨nm, .slice va (od.length + xs.length) vc, od ++ xs, ola⟩) hok.nd hput
      exact ⟨rfl, app_end hok hn hla hold (.inr h256') hfit hL.tl hB⟩
end Go.Proofs.YtjafamiaahabgaaGreatDoor
namespace Go.Proofs.YtjafamiaahabgaaGreatDoor
open Go.RowKit
open Go.Maps (Keyed)
set_option linter.unusedVariables false
set_option linter.unusedSimpArgs false
set_option maxRecDepth 100000

theorem clone_fn (v : Value) (l : List UInt8) (w0 : World) (hs : Sl w0 v (bv l)) (hlen : l.length ≤ 2147483648) : Fn Tryz.prog 34 #[v] w0 fun r w' => w'.ownsRow w0.heap.size 5 1 r l.length (bv l) ∧ Below w0.heap.size w0 w' := by
  have hL := Sep.start Tryz.prog w0
  have hB := Nat.le_refl w0.heap.size
  obtain ⟨a, c, rfl⟩ := hs.shape
  simp only [bv_length] at *
  refine Fn.mk Tryz.func34 rfl (by kernel_rfl) Tryz.ntmps34 rfl (by rw [Tryz.results34]) ?_
  cases a with
  | none =>
    obtain rfl : l = [] := by
      rcases hs.cases with ⟨he, hx⟩ | ⟨ad, c', he, _⟩
      · simpa [bv] using hx
      · cases he
    repeat (first | (refine RunH ?_; intro w hL hB; try clear w) | (refine Both.mk ?_ ?_ <;> conv => whnf) | fail)
    exact ⟨World.ownsRow_nil w0 _ _ _, Below.refl _ _⟩
  | some ad =>
    repeat (first | (refine RunH ?_; intro w hL hB; try clear w) | (refine Both.mk ?_ ?_ <;> conv => whnf) | fail)
    refine Rv.buildS (len := 0) (vs := []) ttOk hL tl23 tl5 rfl rfl (by intro u hu; cases hu) (by decide) (by decide) hB fun bo w hL hB => ?_
    conv => whnf
    repeat (first | (refine RunH ?_; intro w hL hB; try clear w) | (refine Both.mk ?_ ?_ <;> conv => whnf) | fail)
    refine Rv.appendS (m := l.length) ttOk hL tl23 tl5 rfl (by decide) 0 rfl (by have := (hL.sl hs rfl).toN; rw [bv_length] at this; exact this) (bv_one _) (by simp only [maxLen]; omega) (by omega) hB fun v' w hL hB => ?_
    obtain ⟨ba, bc, rfl⟩ := (show SlN w 1 v' _ _ from hL.rowN (i := 0) rfl).shape
    dsimp only [List.set] at hL
    conv => whnf
    repeat (first | (refine RunH ?_; intro w hL hB; try clear w) | (refine Both.mk ?_ ?_ <;> conv => whnf) | fail)
    have ho := hL.ownR (i := 0) rfl
    exact ⟨by simpa using ho, hL.below⟩

theorem read_fn {B b room : Nat} {S : List Fl} {F : List Res} (nm : ByteArray) (hnm : nm.size ≤ 1000000) {w0 w : World} (hD : DkS B w0 w b room S F) :
    Fn Tryz.prog 61 #[ptr b, .string nm] w fun r w' => match getS S nm with
      | some f => ∃ u, r = .tuple #[u, .int .i64 0] ∧ DkS B w0 w' b room S (.row 5 1 u f.d.length (bv f.d) :: F)
      | none => r = .tuple #[.slice none 0 0, .int .i64 7] ∧ DkS B w0 w' b room S F := by
  obtain ⟨⟨mo, fs, rfl, hok, hmo, hL⟩, hB⟩ := hD
  rw [getF_fl]
  cases hf : getF fs nm with
  | none =>
    simp only [Option.map_none]
    refine Fn.mk Tryz.func61 rfl (by kernel_rfl) Tryz.ntmps61 rfl (by rw [Tryz.results61]) ?_
    repeat (first | (refine RunH ?_; intro w hL hB; try clear w) | (refine Both.mk ?_ ?_ <;> conv => whnf) | fail)
    refine (of_fn nm hnm hok.nd hmo hL hB).mono fun r w ⟨hr, hL, hB⟩ => ?_
    subst hr
    rw [ofV_none hf]
    conv => whnf
    repeat (first | (refine RunH ?_; intro w hL hB; try clear w) | (refine Both.mk ?_ ?_ <;> conv => whnf) | (refine Nw.sep hL hB (fun b1 w hL hB hb1 => ?_); conv => whnf) | fail)
    exact ⟨rfl, DkS.mk' hok hmo rfl hL.tl hB⟩
  | some f =>
    simp only [Option.map_some, Fv.fl]
    obtain ⟨fa, fc, hfv⟩ := dk_shape hL (getF_mem hf)
    have hfd : f.d.length ≤ 1073741824 := by
      have h1 := hok.tot
      have h2 := hok.room
      have h3 := oldN_le fs nm
      rw [oldN, hf] at h3
      simp only at h3
      omega
    refine Fn.mk Tryz.func61 rfl (by kernel_rfl) Tryz.ntmps61 rfl (by rw [Tryz.results61]) ?_
    repeat (first | (refine RunH ?_; intro w hL hB; try clear w) | (refine Both.mk ?_ ?_ <;> conv => whnf) | fail)
    refine (of_fn nm hnm hok.nd hmo hL hB).mono fun r w ⟨hr, hL, hB⟩ => ?_
    subst hr
    rw [ofV_some hf hfv]
    conv => whnf
    repeat (first | (refine RunH ?_; intro w hL hB; try clear w) | (refine Both.mk ?_ ?_ <;> conv => whnf) | (refine Nw.sep hL hB (fun b1 w hL hB hb1 => ?_); conv => whnf) | fail)
    have hrow : Sl w (.slice fa f.d.length fc) (bv f.d) := by
      have h : f.row.holds Tryz.prog w := hL.hold f.row (by simp only [dkRes, List.mem_cons, List.mem_append, List.mem_map]; exact .inr (.inl (.inr (.inr ⟨f, getF_mem hf, rfl⟩))))
      rw [← hfv]
      exact RowC.sl h
    refine (clone_fn _ f.d _ hrow (by omega)).mono fun r w ⟨ho, hw⟩ => ?_
    replace hL := hL.addRow hB hw ho
    replace hB := Nat.le_trans hB hw.size
    obtain ⟨ra, rc, rfl⟩ := (show SlN w 1 r _ _ from hL.rowN (i := 0) rfl).shape
    conv => whnf
    repeat (first | (refine RunH ?_; intro w hL hB; try clear w) | (refine Both.mk ?_ ?_ <;> conv => whnf) | fail)
    refine ⟨_, rfl, DkS.mk' (mo := mo) hok hmo rfl ?_ hB⟩
    exact (hL.sub (L' := _ :: (dkRes b room (tot fs) mo fs ++ F)) (.cons_cons _ (.cons _ (.refl _)))).perm List.perm_middle.symm

def syncS (S : List Fl) (nm : ByteArray) : List Fl := match getS S nm with
  | some f => putS S ⟨nm, f.d, f.d.length⟩
  | none => S
theorem sync_fn {B b room : Nat} {S : List Fl} {F : List Res} (nm : ByteArray) (hnm : nm.size ≤ 1000000) {w0 w : World} (hD : DkS B w0 w b room S F) :
    Fn Tryz.prog 37 #[ptr b, .string nm] w fun r w' => r = .int .i64 (if (getS S nm).isSome then 0 else 7) ∧ DkS B w0 w' b room (syncS S nm) F := by
  obtain ⟨⟨mo, fs, rfl, hok, hmo, hL⟩, hB⟩ := hD
  have hg := strGood hnm
  rw [syncS, getF_fl]
  cases hf : getF fs nm with
  | none =>
    simp only [Option.map_none, Option.isSome_none]
    refine Fn.mk Tryz.func37 rfl (by kernel_rfl) Tryz.ntmps37 rfl (by rw [Tryz.results37]) ?_
    repeat (first | (refine RunH ?_; intro w hL hB; try clear w) | (refine Both.mk ?_ ?_ <;> conv => whnf) | fail)
    refine (of_fn nm hnm hok.nd hmo hL hB).mono fun r w ⟨hr, hL, hB⟩ => ?_
    subst hr
    rw [ofV_none hf]
    conv => whnf
    repeat (first | (refine RunH ?_; intro w hL hB; try clear w) | (refine Both.mk ?_ ?_ <;> conv => whnf) | (refine Nw.sep hL hB (fun b1 w hL hB hb1 => ?_); conv => whnf) | fail)
    exact ⟨rfl, DkS.mk' hok hmo rfl hL.tl hB⟩
  | some f =>
    simp only [Option.map_some, Option.isSome_some, Fv.fl]
    obtain ⟨fa, fc, hfv⟩ := dk_shape hL (getF_mem hf)
    have hfn : f.nm = nm := by obtain ⟨_, _, _, h, _⟩ := getF_some hf; exact h
    cases mo with
    | none =>
      obtain rfl := hmo rfl
      cases hf
    | some m =>
    refine Fn.mk Tryz.func37 rfl (by kernel_rfl) Tryz.ntmps37 rfl (by rw [Tryz.results37]) ?_
    repeat (first | (refine RunH ?_; intro w hL hB; try clear w) | (refine Both.mk ?_ ?_ <;> conv => whnf) | fail)
    refine (of_fn nm hnm hok.nd hmo hL hB).mono fun r w ⟨hr, hL, hB⟩ => ?_
    subst hr
    rw [ofV_some hf hfv]
    replace hL := dk_take hf hL
    simp only [mRes, List.nil_append, List.cons_append, Fv.row, hfv] at hL
    have htot := tot_fl fs
    have hfd : f.d.length ≤ 1073741824 := by
      have h1 := hok.tot
      have h2 := hok.room
      have h3 := oldN_le fs nm
      rw [oldN, hf] at h3
      simp only at h3
      omega
    conv => whnf
    repeat (first | (refine RunH ?_; intro w hL hB; try clear w) | (refine Both.mk ?_ ?_ <;> conv => whnf) | (refine Nw.sep hL hB (fun b1 w hL hB hb1 => ?_); conv => whnf) | fail)
    refine Ru.putS (v := (⟨nm, .slice fa f.d.length fc, f.d, f.d.length⟩ : Fv).val) ttOk hL strK 3 tl60 rfl hg hB (fun w l' hput hL hB => ?_)
    conv => whnf
    repeat (first | (refine RunH ?_; intro w hL hB; try clear w) | (refine Both.mk ?_ ?_ <;> conv => whnf) | fail)
    obtain rfl := put_files (g := ⟨nm, .slice fa f.d.length fc, f.d, f.d.length⟩) hok.nd hput
    refine ⟨rfl, ?_⟩
    have h1 := hok.nm f (getF_mem hf)
    rw [hfn] at h1
    have ht := tot_put fs ⟨nm, .slice fa f.d.length fc, f.d, f.d.length⟩
    have ho : oldN fs nm = f.d.length := by rw [oldN, hf]
    simp only [ho] at ht
    have := DkS.mk' (room := room) (mo := some m) (used := tot fs) (fs := putF fs ⟨nm, .slice fa f.d.length fc, f.d, f.d.length⟩) (hok.put (Nat.le_refl _) h1 (by have := hok.tot; simp only [ho]; omega) (.inl (by simp [hf]))) (fun h => by cases h) (by omega) (dk_back hL.tl) hB
    rw [putF_fl] at this
    exact this
end Go.Proofs.YtjafamiaahabgaaGreatDoor
