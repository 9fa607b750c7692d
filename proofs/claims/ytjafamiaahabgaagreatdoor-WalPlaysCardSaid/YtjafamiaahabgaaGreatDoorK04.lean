/- strings.Repeat of noughts; names of volumes with one digit. disk: what a disk is in memory; of, isName, lay. Nothing is claimed here. -/
import Derived.Test.YtjafamiaahabgaaGreatDoorK03
namespace Go.Proofs.YtjafamiaahabgaaGreatDoor
open Go.RowKit
set_option linter.unusedVariables false
set_option linter.unusedSimpArgs false
set_option maxRecDepth 100000

/-- n noughts -/
def zs (n : Nat) : ByteArray := ⟨(List.replicate n 48).toArray⟩
theorem mul64_fn (b : Nat) (hb : b < 4294967296) (w : World) : Fn Tryz.prog 113 #[.int .u64 1, .int .u64 b] w fun r w' => r = .tuple #[.int .u64 0, .int .u64 b] ∧ w' = w := by
  have hA : b &&& 4294967295 = b := by rw [show 4294967295 = 2 ^ 32 - 1 from rfl, Nat.and_two_pow_sub_one_eq_mod]; exact Nat.mod_eq_of_lt hb
  have hA0 : b / 4294967296 = 0 := Nat.div_eq_of_lt hb
  have hL := Sep.start Tryz.prog w
  have hB := Nat.le_refl w.heap.size
  refine Fn.mk Tryz.func113 rfl (by kernel_rfl) Tryz.ntmps113 rfl (by rw [Tryz.results113]) ?_
  repeat (first | (refine RunH ?_; intro w hL hB; try clear w) | (refine Both.mk ?_ ?_ <;> conv => whnf) | fail)
  refine Bt.and64 1 4294967295 rfl rfl (by decide) (by decide) ?_
  rw [show 1 &&& 4294967295 = 1 from by decide]
  conv => whnf
  repeat (first | (refine RunH ?_; intro w hL hB; try clear w) | (refine Both.mk ?_ ?_ <;> conv => whnf) | fail)
  refine Shr.u64 1 32 4294967296 rfl rfl (by decide) rfl ?_
  rw [show 1 / 4294967296 = 0 from by decide]
  conv => whnf
  repeat (first | (refine RunH ?_; intro w hL hB; try clear w) | (refine Both.mk ?_ ?_ <;> conv => whnf) | fail)
  refine Bt.and64 b 4294967295 rfl rfl (by omega) (by decide) ?_
  rw [hA]
  conv => whnf
  repeat (first | (refine RunH ?_; intro w hL hB; try clear w) | (refine Both.mk ?_ ?_ <;> conv => whnf) | fail)
  refine Shr.u64 b 32 4294967296 rfl rfl (by decide) rfl ?_
  rw [hA0]
  conv => whnf
  repeat (first | (refine RunH ?_; intro w hL hB; try clear w) | (refine Both.mk ?_ ?_ <;> conv => whnf) | fail)
  refine Shr.u64 b 32 4294967296 (by omega) rfl (by decide) rfl ?_
  rw [hA0]
  conv => whnf
  repeat (first | (refine RunH ?_; intro w hL hB; try clear w) | (refine Both.mk ?_ ?_ <;> conv => whnf) | fail)
  refine Bt.and64 0 4294967295 (by omega) rfl (by decide) (by decide) ?_
  rw [show 0 &&& 4294967295 = 0 from by decide]
  conv => whnf
  repeat (first | (refine RunH ?_; intro w hL hB; try clear w) | (refine Both.mk ?_ ?_ <;> conv => whnf) | fail)
  refine Shr.u64 0 32 4294967296 (by omega) rfl (by decide) rfl ?_
  rw [show 0 / 4294967296 = 0 from by decide]
  conv => whnf
  repeat (first | (refine RunH ?_; intro w hL hB; try clear w) | (refine Both.mk ?_ ?_ <;> conv => whnf) | fail)
  refine Shr.u64 0 32 4294967296 (by omega) rfl (by decide) rfl ?_
  rw [show 0 / 4294967296 = 0 from by decide]
  conv => whnf
  repeat (first | (refine RunH ?_; intro w hL hB; try clear w) | (refine Both.mk ?_ ?_ <;> conv => whnf) | fail)
  refine ⟨?_, rfl⟩
  congr 4
  all_goals first | rfl | (simp; done) | (simp; omega)
theorem mul_fn (b : Nat) (hb : b < 4294967296) (w : World) : Fn Tryz.prog 93 #[.int .u64 1, .int .u64 b] w fun r w' => r = .tuple #[.int .u64 0, .int .u64 b] ∧ w' = w := by
  refine Fn.mk Tryz.func93 rfl (by kernel_rfl) Tryz.ntmps93 rfl (by rw [Tryz.results93]) ?_
  refine RunR ?_
  refine (mul64_fn b hb _).mono fun r w' ⟨hr, hw⟩ => ?_
  subst hr; subst hw
  conv => whnf
  refine RunR ?_
  exact ⟨rfl, rfl⟩
def z64 : ByteArray := ⟨(List.replicate 64 48).toArray⟩
theorem hasPre_fn (a z : ByteArray) (ha : a.size ≤ 1000) (hz : z.size ≤ a.size) (w : World) : Fn Tryz.prog 94 #[.string a, .string z] w fun r w' => r = .bool (decide (a.extract 0 z.size = z)) ∧ w' = w := by
  have hL := Sep.start Tryz.prog w
  have hB := Nat.le_refl w.heap.size
  refine Fn.mk Tryz.func94 rfl (by kernel_rfl) Tryz.ntmps94 rfl (by rw [Tryz.results94]) ?_
  refine RunR ?_
  refine Fn.mk Tryz.func108 rfl (by kernel_rfl) Tryz.ntmps108 rfl (by rw [Tryz.results108]) ?_
  repeat (first | (refine RunH ?_; intro w hL hB; try clear w) | (refine Both.mk ?_ ?_ <;> conv => whnf) | fail)
  exact ⟨rfl, rfl⟩
theorem repeat0_fn (n : Nat) (hn : n ≤ 8) (w : World) : Fn Tryz.prog 71 #[.string ⟨#[48]⟩, .int .i64 (n : Int)] w fun r w' => r = .string (zs n) ∧ w' = w := by
  have hL := Sep.start Tryz.prog w
  have hB := Nat.le_refl w.heap.size
  by_cases h0 : n = 0
  · subst h0
    refine Fn.mk Tryz.func71 rfl (by kernel_rfl) Tryz.ntmps71 rfl (by rw [Tryz.results71]) ?_
    repeat (first | (refine RunH ?_; intro w hL hB; try clear w) | (refine Both.mk ?_ ?_ <;> conv => whnf) | fail)
    exact ⟨rfl, rfl⟩
  by_cases h1 : n = 1
  · subst h1
    refine Fn.mk Tryz.func71 rfl (by kernel_rfl) Tryz.ntmps71 rfl (by rw [Tryz.results71]) ?_
    repeat (first | (refine RunH ?_; intro w hL hB; try clear w) | (refine Both.mk ?_ ?_ <;> conv => whnf) | fail)
    exact ⟨rfl, rfl⟩
  refine Fn.mk Tryz.func71 rfl (by kernel_rfl) Tryz.ntmps71 rfl (by rw [Tryz.results71]) ?_
  repeat (first | (refine RunH ?_; intro w hL hB; try clear w) | (refine Both.mk ?_ ?_ <;> conv => whnf) | fail)
  rw [show (⟨#[48]⟩ : ByteArray).size = 1 from rfl]
  refine Ar.u64 (by omega) (by omega) ?_
  conv => whnf
  repeat (first | (refine RunH ?_; intro w hL hB; try clear w) | (refine Both.mk ?_ ?_ <;> conv => whnf) | fail)
  refine (mul_fn n (by omega) _).mono fun r w' ⟨hr, hw⟩ => ?_
  subst hr; subst hw
  conv => whnf
  repeat (first | (refine RunH ?_; intro w hL hB; try clear w) | (refine Both.mk ?_ ?_ <;> conv => whnf) | fail)
  refine Chk.mk ⟨by decide, by decide⟩ ?_
  intro b1 hb1
  obtain rfl : b1 = 48 := (Option.some.inj hb1).symm
  rw [show (48 : UInt8).toNat = 48 from rfl]
  conv => whnf
  repeat (first | (refine RunH ?_; intro w hL hB; try clear w) | (refine Both.mk ?_ ?_ <;> conv => whnf) | fail)
  refine (hasPre_fn _ ⟨#[48]⟩ (by decide) (by decide) _).mono fun r w' ⟨hr, hw⟩ => ?_
  subst hr; subst hw
  conv => whnf
  repeat (first | (refine RunH ?_; intro w hL hB; try clear w) | (refine Both.mk ?_ ?_ <;> conv => whnf) | fail)
  refine (hasPre_fn _ ⟨#[48]⟩ (by decide) (by decide) _).mono fun r w' ⟨hr, hw⟩ => ?_
  subst hr; subst hw
  conv => whnf
  repeat (first | (refine RunH ?_; intro w hL hB; try clear w) | (refine Both.mk ?_ ?_ <;> conv => whnf) | fail)
  refine (hasPre_fn _ ⟨#[48]⟩ (by decide) (by decide) _).mono fun r w' ⟨hr, hw⟩ => ?_
  subst hr; subst hw
  rw [decide_eq_true (by decide)]
  conv => whnf
  repeat (first | (refine RunH ?_; intro w hL hB; try clear w) | (refine Both.mk ?_ ?_ <;> conv => whnf) | fail)
  refine Chk.mk ⟨by decide, by omega, (show (n : Int) ≤ 64 from by omega)⟩ ?_
  conv => whnf
  repeat (first | (refine RunH ?_; intro w hL hB; try clear w) | (refine Both.mk ?_ ?_ <;> conv => whnf) | fail)
  obtain rfl | rfl | rfl | rfl | rfl | rfl | rfl : n = 2 ∨ n = 3 ∨ n = 4 ∨ n = 5 ∨ n = 6 ∨ n = 7 ∨ n = 8 := by omega
  all_goals exact ⟨congrArg Value.string (by decide +kernel), rfl⟩
/-- the text of one digit -/
theorem itoa1_fn (i : Nat) (hi : i = 1 ∨ i = 3 ∨ i = 5 ∨ i = 7) (w : World) : Fn Tryz.prog 70 #[.int .i64 (i : Int)] w fun r w' => r = .string ⟨#[UInt8.ofNat (48 + i)]⟩ ∧ w' = w := by
  have hL := Sep.start Tryz.prog w
  have hB := Nat.le_refl w.heap.size
  rcases hi with rfl | rfl | rfl | rfl <;> (
    refine Fn.mk Tryz.func70 rfl (by kernel_rfl) Tryz.ntmps70 rfl (by rw [Tryz.results70]) ?_
    repeat (first | (refine RunH ?_; intro w hL hB; try clear w) | (refine Both.mk ?_ ?_ <;> conv => whnf) | fail)
    refine Fn.mk Tryz.func92 rfl (by kernel_rfl) Tryz.ntmps92 rfl (by rw [Tryz.results92]) ?_
    repeat (first | (refine RunH ?_; intro w hL hB; try clear w) | (refine Both.mk ?_ ?_ <;> conv => whnf) | fail)
    refine Fn.mk Tryz.func111 rfl (by kernel_rfl) Tryz.ntmps111 rfl (by rw [Tryz.results111]) ?_
    repeat (first | (refine RunH ?_; intro w hL hB; try clear w) | (refine Both.mk ?_ ?_ <;> conv => whnf) | fail)
    refine Fn.mk Tryz.func130 rfl (by kernel_rfl) Tryz.ntmps130 rfl (by rw [Tryz.results130]) ?_
    repeat (first | (refine RunH ?_; intro w hL hB; try clear w) | (refine Both.mk ?_ ?_ <;> conv => whnf) | fail)
    refine Chk.mk ⟨by decide, by decide, (show _ ≤ ((36 : Nat) : Int) from by decide)⟩ ?_
    conv => whnf
    repeat (first | (refine RunH ?_; intro w hL hB; try clear w) | (refine Both.mk ?_ ?_ <;> conv => whnf) | fail)
    exact ⟨congrArg Value.string (by decide +kernel), rfl⟩)
def vnm (i : Nat) : ByteArray := ⟨#[118, 48, 48, 48, 48, 48, 48, 48, UInt8.ofNat (48 + i), 46, 100, 97, 116]⟩
end Go.Proofs.YtjafamiaahabgaaGreatDoor
namespace Go.Proofs.YtjafamiaahabgaaGreatDoor
open Go.RowKit
open Go.Maps (Keyed)
set_option linter.unusedVariables false
set_option linter.unusedSimpArgs false
set_option maxRecDepth 100000

def ptr (b : Nat) : Value := .pointer (some ⟨b, 0, none⟩)
/-- a file: its name, its slice, its bytes, how many last -/
structure Fv where
  nm : ByteArray
  v : Value
  d : List UInt8
  la : Nat
def Fv.val (f : Fv) : Value := .agg #[f.v, .int .i64 (f.la : Int)]
def Fv.ent (f : Fv) : Value × Value := (.string f.nm, f.val)
def Fv.row (f : Fv) : Res := .rc 5 f.v f.d.length (bv f.d)
def tot (fs : List Fv) : Nat := (fs.map (·.d.length)).sum
def mRes (mo : Option Nat) (fs : List Fv) : List Res := match mo with
  | none => []
  | some m => [.mp 9 m (fs.map Fv.ent)]
def dkRes (b room used : Nat) (mo : Option Nat) (fs : List Fv) : List Res :=
  .blk b [.int .i64 (room : Int), .int .i64 (used : Int), .map mo] 62 :: (mRes mo fs ++ fs.map Fv.row)
def getF : List Fv → ByteArray → Option Fv
  | [], _ => none
  | f :: fs, nm => if f.nm = nm then some f else getF fs nm
def putF : List Fv → Fv → List Fv
  | [], g => [g]
  | f :: fs, g => if f.nm = g.nm then g :: fs else f :: putF fs g
def delF : List Fv → ByteArray → List Fv
  | [], _ => []
  | f :: fs, nm => if f.nm = nm then fs else f :: delF fs nm
theorem strK : Keyed Tryz.prog 9 := Go.Maps.string_keyed Tryz.underlying9
theorem strGood {s : ByteArray} (h : s.size ≤ 1000000) : Good Tryz.prog 9 (.string s) := good_str Tryz.underlying9 (by simp only [maxLen]; omega)

/-! ### lists of files -/
theorem getF_none : ∀ {fs : List Fv} {nm : ByteArray}, getF fs nm = none → ∀ f ∈ fs, f.nm ≠ nm
  | f :: fs, nm, h, g, hg => by
    unfold getF at h
    split at h
    · cases h
    · rename_i hn
      rcases List.mem_cons.1 hg with rfl | hg
      · exact hn
      · exact getF_none h g hg
theorem getF_some : ∀ {fs : List Fv} {nm : ByteArray} {f : Fv}, getF fs nm = some f → ∃ A C, fs = A ++ f :: C ∧ f.nm = nm ∧ ∀ g ∈ A, g.nm ≠ nm
  | f :: fs, nm, g, h => by
    unfold getF at h
    split at h
    · rename_i hn
      injection h with h; subst h
      exact ⟨[], fs, rfl, hn, by simp⟩
    · rename_i hn
      obtain ⟨A, C, rfl, h1, h2⟩ := getF_some h
      refine ⟨f :: A, C, rfl, h1, fun x hx => ?_⟩
      rcases List.mem_cons.1 hx with rfl | hx
      · exact hn
      · exact h2 x hx
theorem getF_of_none : ∀ {fs : List Fv} {nm : ByteArray}, (∀ f ∈ fs, f.nm ≠ nm) → getF fs nm = none
  | [], _, _ => rfl
  | f :: fs, nm, h => by
    unfold getF
    rw [if_neg (h f (by simp)), getF_of_none fun g hg => h g (by simp [hg])]
theorem getF_split : ∀ {A C : List Fv} {f : Fv} {nm : ByteArray}, (∀ g ∈ A, g.nm ≠ nm) → f.nm = nm → getF (A ++ f :: C) nm = some f
  | [], C, f, nm, _, h => by simp [getF, h]
  | g :: A, C, f, nm, h1, h => by
    rw [List.cons_append, getF, if_neg (h1 g (by simp)), getF_split (fun x hx => h1 x (by simp [hx])) h]
theorem putF_none : ∀ {fs : List Fv} {g : Fv}, (∀ f ∈ fs, f.nm ≠ g.nm) → putF fs g = fs ++ [g]
  | [], g, _ => rfl
  | f :: fs, g, h => by
    unfold putF
    rw [if_neg (h f (by simp)), putF_none fun x hx => h x (by simp [hx])]; rfl
theorem putF_split : ∀ {A C : List Fv} {f g : Fv}, (∀ x ∈ A, x.nm ≠ g.nm) → f.nm = g.nm → putF (A ++ f :: C) g = A ++ g :: C
  | [], C, f, g, _, h => by simp [putF, h]
  | x :: A, C, f, g, h1, h => by
    rw [List.cons_append, putF, if_neg (h1 x (by simp)), putF_split (fun y hy => h1 y (by simp [hy])) h]; rfl
theorem delF_none : ∀ {fs : List Fv} {nm : ByteArray}, (∀ f ∈ fs, f.nm ≠ nm) → delF fs nm = fs
  | [], _, _ => rfl
  | f :: fs, nm, h => by
    unfold delF
    rw [if_neg (h f (by simp)), delF_none fun g hg => h g (by simp [hg])]
theorem delF_split : ∀ {A C : List Fv} {f : Fv} {nm : ByteArray}, (∀ g ∈ A, g.nm ≠ nm) → f.nm = nm → delF (A ++ f :: C) nm = A ++ C
  | [], C, f, nm, _, h => by simp [delF, h]
  | g :: A, C, f, nm, h1, h => by
    rw [List.cons_append, delF, if_neg (h1 g (by simp)), delF_split (fun x hx => h1 x (by simp [hx])) h]; rfl
theorem ent_key {f : Fv} {nm : ByteArray} : f.ent.1 = .string nm ↔ f.nm = nm := by simp [Fv.ent]
/-- what a look into the map gives -/
theorem got_files {fs : List Fv} {nm : ByteArray} {z u : Value} {ok : Bool} (hnd : (fs.map (·.nm)).Nodup) (h : Got (fs.map Fv.ent) (.string nm) z u ok) :
    (∃ f, getF fs nm = some f ∧ u = f.val ∧ ok = true) ∨ (getF fs nm = none ∧ u = z ∧ ok = false) := by
  cases h with
  | yes u h =>
    obtain ⟨f, hf, he⟩ := List.mem_map.1 h
    injection he with e1 e2
    injection e1 with e1
    cases hg : getF fs nm with
    | none => exact absurd e1 (getF_none hg f hf)
    | some g =>
      obtain ⟨A, C, rfl, h1, h2⟩ := getF_some hg
      refine .inl ⟨g, rfl, ?_, rfl⟩
      rw [← e2]
      simp only [List.map_append, List.map_cons, List.nodup_append, List.nodup_cons, List.mem_map, List.mem_cons] at hnd
      rcases List.mem_append.1 hf with hf | hf
      · exact absurd e1 (h2 f hf)
      · rcases List.mem_cons.1 hf with rfl | hf
        · rfl
        · exact absurd ⟨f, hf, e1.trans h1.symm⟩ hnd.2.1.1
  | no h =>
    refine .inr ⟨getF_of_none fun f hf he => h f.ent (List.mem_map_of_mem hf) (by simp [Fv.ent, he]), rfl, rfl⟩
theorem map_split {A' B' : List (Value × Value)} : ∀ {A C : List Fv} {f : Fv} {u : Value}, ((A ++ f :: C).map (·.nm)).Nodup → (A ++ f :: C).map Fv.ent = A' ++ (.string f.nm, u) :: B' → A' = A.map Fv.ent ∧ B' = C.map Fv.ent := by
  induction A' with
  | nil =>
    intro A C f u hnd h
    cases A with
    | nil => simp at h; exact ⟨rfl, h.2.symm⟩
    | cons g A =>
      simp [Fv.ent] at h
      simp at hnd
      exact absurd h.1.1 hnd.1.2.1
  | cons p A' ih =>
    intro A C f u hnd h
    cases A with
    | nil =>
      simp [Fv.ent] at h
      have hm : (Value.string f.nm, u) ∈ C.map Fv.ent := by
        have := congrArg (fun l => (Value.string f.nm, u) ∈ l) h.2
        simp only [eq_iff_iff] at this
        exact this.2 (by simp)
      obtain ⟨g, hg, he⟩ := List.mem_map.1 hm
      injection he with e1 _
      injection e1 with e1
      simp at hnd
      exact absurd e1 (fun e => hnd.1 g hg e)
    | cons g A =>
      simp only [List.cons_append, List.map_cons] at h hnd
      injection h with h1 h2
      obtain ⟨q1, q2⟩ := ih (List.nodup_cons.1 hnd).2 h2
      exact ⟨by rw [← h1, q1]; rfl, q2⟩
/-- the entries behind a store -/
theorem put_files {fs : List Fv} {g : Fv} {l : List (Value × Value)} (hnd : (fs.map (·.nm)).Nodup) (h : Put (fs.map Fv.ent) (.string g.nm) g.val l) : l = (putF fs g).map Fv.ent := by
  cases hg : getF fs g.nm with
  | none =>
    have hn := getF_none hg
    rw [putF_none hn]
    cases h with
    | new _ => simp [Fv.ent]
    | old A B u h =>
      exfalso
      have : (Value.string g.nm, u) ∈ fs.map Fv.ent := by rw [h]; simp
      obtain ⟨f, hf, he⟩ := List.mem_map.1 this
      injection he with e1 _
      injection e1 with e1
      exact hn f hf e1
  | some f =>
    obtain ⟨A, C, rfl, h1, h2⟩ := getF_some hg
    rw [putF_split h2 h1]
    cases h with
    | new h => exact absurd (by simp [Fv.ent, h1]) (h f.ent (by simp))
    | old A' B' u h =>
      rw [← h1] at h
      obtain ⟨rfl, rfl⟩ := map_split hnd h
      simp [Fv.ent]
theorem gone_files {fs : List Fv} {nm : ByteArray} {l : List (Value × Value)} (hnd : (fs.map (·.nm)).Nodup) (h : Gone (fs.map Fv.ent) (.string nm) l) : l = (delF fs nm).map Fv.ent := by
  cases hg : getF fs nm with
  | none =>
    have hn := getF_none hg
    rw [delF_none hn]
    cases h with
    | no _ => rfl
    | yes A B u h =>
      exfalso
      have : (Value.string nm, u) ∈ fs.map Fv.ent := by rw [h]; simp
      obtain ⟨f, hf, he⟩ := List.mem_map.1 this
      injection he with e1 _
      injection e1 with e1
      exact hn f hf e1
  | some f =>
    obtain ⟨A, C, rfl, h1, h2⟩ := getF_some hg
    rw [delF_split h2 h1]
    cases h with
    | no h => exact absurd (by simp [Fv.ent, h1]) (h f.ent (by simp))
    | yes A' B' u h =>
      rw [← h1] at h
      obtain ⟨rfl, rfl⟩ := map_split hnd h
      simp

/-! ### isName, of -/
theorem row_shape {B : Nat} {w0 w : World} {X F : List Res} {fs : List Fv} (hL : Sep Tryz.prog B w0 w (X ++ (fs.map Fv.row ++ F))) {f : Fv} (hf : f ∈ fs) : ∃ a c, f.v = .slice a f.d.length c := by
  have h : f.row.holds Tryz.prog w := hL.hold f.row (by simp only [List.mem_append, List.mem_map]; exact .inr (.inl ⟨f, hf, rfl⟩))
  exact RowC.shape h
theorem getF_mem {fs : List Fv} {nm : ByteArray} {f : Fv} (h : getF fs nm = some f) : f ∈ fs := by
  obtain ⟨A, C, rfl, _⟩ := getF_some h
  simp
theorem isName_fn (s : ByteArray) (hs : s.size ≤ 1000000) (w : World) : Fn Tryz.prog 41 #[.string s] w fun r w' => r = .bool (decide (1 ≤ s.size ∧ s.size ≤ 64)) ∧ w' = w := by
  refine Fn.mk Tryz.func41 rfl (by kernel_rfl) Tryz.ntmps41 rfl (by rw [Tryz.results41]) ?_
  by_cases h1 : 1 ≤ s.size
  · refine RunR ?_
    by_cases h2 : s.size ≤ 64
    · refine RunR ?_
      exact ⟨by simp [h1, h2]; omega, rfl⟩
    · refine RunR ?_
      exact ⟨by simp [h1, h2]; omega, rfl⟩
  · refine RunR ?_
    exact ⟨by simp [h1], rfl⟩
def ofV (fs : List Fv) (nm : ByteArray) : Value := match getF fs nm with
  | some f => .tuple #[.agg #[f.v, .int .i64 (f.la : Int)], .bool true]
  | none => .tuple #[.agg #[.slice none 0 0, .int .i64 0], .bool false]
theorem of_fn {B b room used : Nat} {mo : Option Nat} {fs : List Fv} {F : List Res} (nm : ByteArray) (hnm : nm.size ≤ 1000000) (hnd : (fs.map (·.nm)).Nodup) (hmo : mo = none → fs = []) {w0 w : World} (hL : Sep Tryz.prog B w0 w (dkRes b room used mo fs ++ F)) (hB : B ≤ w.heap.size) :
    Fn Tryz.prog 65 #[ptr b, .string nm] w fun r w' => r = ofV fs nm ∧ Sep Tryz.prog B w0 w' (dkRes b room used mo fs ++ F) ∧ B ≤ w'.heap.size := by
  have hg := strGood hnm
  refine Fn.mk Tryz.func65 rfl (by kernel_rfl) Tryz.ntmps65 rfl (by rw [Tryz.results65]) ?_
  cases mo with
  | none =>
    obtain rfl := hmo rfl
    simp only [dkRes, mRes, List.map_nil, List.nil_append, List.cons_append] at hL ⊢
    repeat (first | (refine RunH ?_; intro w hL hB; try clear w) | (refine Both.mk ?_ ?_ <;> conv => whnf) | (refine Nw.sep hL hB (fun b1 w hL hB hb1 => ?_); conv => whnf) | fail)
    refine Rv.lookOkN ttOk strK tl60 tl86 hg ?_
    conv => whnf
    repeat (first | (refine RunH ?_; intro w hL hB; try clear w) | (refine Both.mk ?_ ?_ <;> conv => whnf) | (refine Nw.sep hL hB (fun b2 w hL hB hb2 => ?_); conv => whnf) | fail)
    exact ⟨rfl, hL.tl.tl, hB⟩
  | some m =>
    simp only [dkRes, mRes, List.nil_append, List.cons_append] at hL ⊢
    repeat (first | (refine RunH ?_; intro w hL hB; try clear w) | (refine Both.mk ?_ ?_ <;> conv => whnf) | (refine Nw.sep hL hB (fun b1 w hL hB hb1 => ?_); conv => whnf) | fail)
    refine Rv.seekOkS ttOk hL strK 2 tl60 tl86 rfl hg fun u ok hgot => ?_
    rcases got_files hnd hgot with ⟨f, hf, rfl, rfl⟩ | ⟨hf, rfl, rfl⟩
    · obtain ⟨fa, fc, hfv⟩ := row_shape (X := [_, _, _]) hL (getF_mem hf)
      obtain ⟨fn, fv, fd, fl⟩ := f
      dsimp only at hfv
      subst hfv
      unfold Fv.val
      conv => whnf
      repeat (first | (refine RunH ?_; intro w hL hB; try clear w) | (refine Both.mk ?_ ?_ <;> conv => whnf) | (refine Nw.sep hL hB (fun b2 w hL hB hb2 => ?_); conv => whnf) | fail)
      exact ⟨by rw [ofV, hf]; rfl, hL.tl.tl, hB⟩
    · conv => whnf
      repeat (first | (refine RunH ?_; intro w hL hB; try clear w) | (refine Both.mk ?_ ?_ <;> conv => whnf) | (refine Nw.sep hL hB (fun b2 w hL hB hb2 => ?_); conv => whnf) | fail)
      exact ⟨by rw [ofV, hf]; rfl, hL.tl.tl, hB⟩

/-! ### lay -/
def oldN (fs : List Fv) (nm : ByteArray) : Nat := match getF fs nm with
  | some f => f.d.length
  | none => 0
theorem tot_put : ∀ (fs : List Fv) (g : Fv), tot (putF fs g) + oldN fs g.nm = tot fs + g.d.length
  | [], g => by simp [putF, tot, oldN, getF]
  | f :: fs, g => by
    have ih := tot_put fs g
    unfold putF oldN getF
    by_cases h : f.nm = g.nm
    · simp only [if_pos h, tot, List.map_cons, List.sum_cons]
      omega
    · simp only [if_neg h, tot, List.map_cons, List.sum_cons]
      unfold oldN at ih
      simp only [tot] at ih
      omega
theorem oldN_le : ∀ (fs : List Fv) (nm : ByteArray), oldN fs nm ≤ tot fs
  | [], nm => by simp [oldN, getF]
  | f :: fs, nm => by
    have ih := oldN_le fs nm
    unfold oldN getF
    by_cases h : f.nm = nm
    · simp [if_pos h, tot]
    · simp only [if_neg h, tot, List.map_cons, List.sum_cons]
      unfold oldN at ih
      simp only [tot] at ih
      omega
def zeroF : Value := .agg #[.slice none 0 0, .int .i64 0]
def fileV (fs : List Fv) (nm : ByteArray) : Value := match getF fs nm with
  | some f => f.val
  | none => zeroF
section
variable {B : Nat} {w0 w : World} {L : List Res}
theorem Rv.file (hL : Sep Tryz.prog B w0 w L) {K : Value → World → Prop} (n : Nat) {m : Nat} {fs : List Fv} {nm : ByteArray} (hn : L[n]? = some (.mp 9 m (fs.map Fv.ent))) (hnd : (fs.map (·.nm)).Nodup) (hg : Good Tryz.prog 9 (.string nm)) (hk : K (fileV fs nm) w) :
    Rv Tryz.prog (Instr.lookup 60 (.map (some m)) (.string nm) false) w K := by
  refine Rv.seekS ttOk hL strK n tl60 tl86 hn hg fun u ok hgot => ?_
  rcases got_files hnd hgot with ⟨f, hf, rfl, rfl⟩ | ⟨hf, rfl, rfl⟩
  · rw [fileV, hf] at hk; exact hk
  · rw [fileV, hf] at hk; exact hk
theorem Rq.of_rv {P : Program} {C : World → Prop} {s : Sem Value} {K : Value → Prop} (v : Value) (h : ∀ w, C w → Rv P s w fun u w' => u = v ∧ w' = w) (hk : K v) : Rq P C s K :=
  Rq.mk v (fun w hw => by
    obtain ⟨u, w', h1, rfl, rfl⟩ := (h w hw).o
    exact h1) hk
theorem Rq.file {C : World → Prop} (hc : ∀ x, C x → Sep Tryz.prog B w0 x L) {K : Value → Prop} (n : Nat) {m : Nat} {fs : List Fv} {nm : ByteArray} (hn : L[n]? = some (.mp 9 m (fs.map Fv.ent))) (hnd : (fs.map (·.nm)).Nodup) (hg : Good Tryz.prog 9 (.string nm)) (hk : K (fileV fs nm)) :
    Rq Tryz.prog C (Instr.lookup 60 (.map (some m)) (.string nm) false) K :=
  Rq.of_rv _ (fun x hx => Rv.file (hc x hx) n hn hnd hg ⟨rfl, rfl⟩) hk
end
set_option maxHeartbeats 1000000 in
theorem lay_fn {B b room used : Nat} {mo : Option Nat} {fs : List Fv} {F : List Res} (g : Fv) (hnm : g.nm.size ≤ 1000000) (hnd : (fs.map (·.nm)).Nodup) (hmo : mo = none → fs = []) (hsh : ∀ f ∈ fs, ∃ a c, f.v = .slice a f.d.length c) (hu : used = tot fs) (hu1 : used ≤ 2147483648) (hg1 : g.d.length ≤ 2147483648)
    {w0 w : World} (hL : Sep Tryz.prog B w0 w (.blk b [.int .i64 (room : Int), .int .i64 (used : Int), .map mo] 62 :: (mRes mo fs ++ ((putF fs g).map Fv.row ++ F)))) (hB : B ≤ w.heap.size) :
    Fn Tryz.prog 40 #[ptr b, .string g.nm, g.val] w fun r w' => ∃ m, Sep Tryz.prog B w0 w' (dkRes b room (tot (putF fs g)) (some m) (putF fs g) ++ F) ∧ B ≤ w'.heap.size := by
  have hg := strGood hnm
  have htot := tot_put fs g
  have hold := oldN_le fs g.nm
  obtain ⟨ga, gc, hgv⟩ : ∃ a c, g.v = .slice a g.d.length c := by
    have h : g.row.holds Tryz.prog w := hL.hold g.row (by
      have : g ∈ putF fs g := by
        cases hf : getF fs g.nm with
        | none => rw [putF_none (getF_none hf)]; simp
        | some f =>
          obtain ⟨A, C, rfl, h1, h2⟩ := getF_some hf
          rw [putF_split h2 h1]; simp
      simp only [List.mem_cons, List.mem_append, List.mem_map]
      exact .inr (.inr (.inl ⟨g, this, rfl⟩)))
    exact RowC.shape h
  generalize hfs' : putF fs g = fs' at *
  obtain ⟨gn, gv, gd, gl⟩ := g
  dsimp only at *
  subst hgv
  unfold Fv.val
  dsimp only
  refine Fn.mk Tryz.func40 rfl (by kernel_rfl) Tryz.ntmps40 rfl (by rw [Tryz.results40]) ?_
  cases mo with
  | none =>
    obtain rfl := hmo rfl
    simp only [mRes, List.map_nil, List.nil_append, List.cons_append] at hL
    have hp : fs' = [⟨gn, .slice ga gd.length gc, gd, gl⟩] := hfs'.symm
    simp only [oldN, getF, tot, List.map_nil, List.sum_nil] at htot hu
    subst hu
    repeat (first | (refine RunH ?_; intro w hL hB; try clear w) | (refine Both.mk ?_ ?_ <;> conv => whnf) | (refine Nw.sep hL hB (fun b1 w hL hB hb1 => ?_); conv => whnf) | (refine Nw.sepM hL 9 hB (fun m w hL hB hm => ?_); conv => whnf) | (refine Rq.file (fs := []) hL.cls 0 rfl (by simp) hg ?_; conv => whnf) | fail)
    refine Ru.putS (v := (⟨gn, .slice ga gd.length gc, gd, gl⟩ : Fv).val) ttOk hL strK 0 tl60 rfl hg hB (fun w l' hput hL hB => ?_)
    conv => whnf
    repeat (first | (refine RunH ?_; intro w hL hB; try clear w) | (refine Both.mk ?_ ?_ <;> conv => whnf) | fail)
    obtain rfl := put_files (fs := []) (g := ⟨gn, .slice ga gd.length gc, gd, gl⟩) (by simp) hput
    refine ⟨m, ?_, hB⟩
    rw [hfs'] at hL
    have e : tot fs' = gd.length := by rw [hp]; simp [tot]
    rw [e]
    dsimp only [List.set] at hL
    have e2 : (((0 : Nat) : Int) + ((gd.length : Int) - ((0 : Nat) : Int))) = (gd.length : Int) := by omega
    rw [e2] at hL
    exact (hL.sub (L' := [_, _] ++ (fs'.map Fv.row ++ F)) (.cons_cons _ (.cons _ (.cons_cons _ (.refl _))))).perm (.swap _ _ _)
  | some m =>
    simp only [mRes, List.nil_append, List.cons_append] at hL
    have hfile : ∃ a c k, fileV fs gn = .agg #[.slice a (oldN fs gn) c, .int .i64 k] := by
      unfold fileV oldN
      cases hf : getF fs gn with
      | none => exact ⟨none, 0, 0, rfl⟩
      | some f =>
        obtain ⟨a, c, h⟩ := hsh f (getF_mem hf)
        exact ⟨a, c, f.la, by simp [Fv.val, h]⟩
    obtain ⟨oa, oc, ok, hfile⟩ := hfile
    repeat (first | (refine RunH ?_; intro w hL hB; try clear w) | (refine Both.mk ?_ ?_ <;> conv => whnf) | (refine Nw.sep hL hB (fun b1 w hL hB hb1 => ?_); conv => whnf) | (refine Rq.file hL.cls 2 rfl hnd hg ?_; rw [hfile]; conv => whnf) | fail)
    refine Ru.putS (v := (⟨gn, .slice ga gd.length gc, gd, gl⟩ : Fv).val) ttOk hL strK 2 tl60 rfl hg hB (fun w l' hput hL hB => ?_)
    conv => whnf
    repeat (first | (refine RunH ?_; intro w hL hB; try clear w) | (refine Both.mk ?_ ?_ <;> conv => whnf) | fail)
    obtain rfl := put_files (g := ⟨gn, .slice ga gd.length gc, gd, gl⟩) hnd hput
    refine ⟨m, ?_, hB⟩
    rw [hfs'] at hL
    dsimp only [List.set] at hL
    have e2 : (used : Int) + ((gd.length : Int) - (oldN fs gn : Int)) = (tot fs' : Int) := by omega
    rw [e2] at hL
    exact hL.tl
end Go.Proofs.YtjafamiaahabgaaGreatDoor
