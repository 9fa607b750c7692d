/- disk: what its users lean on. Nothing is claimed here. -/
import Derived.Test.YtjafamiaahabgaaDoorDg
namespace Go.Proofs.YtjafamiaahabgaaDoor
open Go.RowKit
open Go.Maps (Keyed)
set_option linter.unusedVariables false
set_option linter.unusedSimpArgs false
set_option maxRecDepth 100000

theorem DkS.open {B : Nat} {w0 w : World} {b room : Nat} {S : List Fl} {F : List Res} (h : DkS B w0 w b room S F) : ∃ dL, Sep Tryd.prog B w0 w (F ++ dL) ∧ B ≤ w.heap.size ∧ ∀ {w' : World} {F' : List Res}, Sep Tryd.prog B w0 w' (F' ++ dL) → B ≤ w'.heap.size → DkS B w0 w' b room S F' := by
  obtain ⟨⟨mo, fs, h1, h2, h3, hL⟩, hB⟩ := h
  exact ⟨_, hL.perm List.perm_append_comm, hB, fun hL hB => ⟨⟨mo, fs, h1, h2, h3, hL.perm List.perm_append_comm⟩, hB⟩⟩
theorem crash_one (f : Fl) (draw : Int) : crashS [f] draw = [crash1 draw 0 f] := by
  have h := rank_lt (S := [f]) (f := f) (by simp)
  have : rank [f] f = 0 := by simp at h; exact h
  simp [crashS, this]
def nmA : ByteArray := ⟨#[97]⟩
theorem Sep.roSl {P : Program} {B : Nat} {w0 w : World} {L : List Res} (h : Sep P B w0 w L) {i : Nat} {v : Value} {xs : List Value} (hi : L[i]? = some (.ro v xs)) : Sl w v xs := (show Res.holds P w (.ro v xs) from h.at hi).1
theorem bv_len1 {l : List UInt8} : ∀ u ∈ bv l, (cellsL u).length = 1 := by
  intro u hu
  obtain ⟨x, _, rfl⟩ := List.mem_map.1 hu
  rfl
theorem bv_flat : ∀ l : List UInt8, (bv l).flatMap cellsL = bv l
  | [] => rfl
  | x :: l => by
    have ih := bv_flat l
    simp only [bv, List.map_cons, List.flatMap_cons] at ih ⊢
    rw [ih]; rfl
section
variable {B : Nat} {w0 w : World} {L : List Res} (hL : Sep Tryd.prog B w0 w L)
include hL
/-- '[]byte("..")': a row of bytes, made and taken as it is -/
theorem Rv.lit {K : Value → World → Prop} {ps : Array (Nat × Value)} (l : List UInt8) (hps : ps = ((List.range' 0 l.length).zip (bv l)).toArray) (hl : l.length ≤ 1000) (hB : B ≤ w.heap.size)
    (hk : ∀ b w', Sep Tryd.prog B w0 w' (.row 5 1 (.slice (some ⟨b, 0, none⟩) l.length l.length) l.length (bv l) :: L) → B ≤ w'.heap.size → K (.slice (some ⟨b, 0, none⟩) l.length l.length) w') :
    Rv Tryd.prog (Instr.buildSlice 23 l.length ps) w K := by
  refine Rv.buildS (len := l.length) (vs := bv l) ttOk hL tl23 tl5 hps (bv_length l) bv_len1 (by omega) (by omega) hB fun bo w hL hB => ?_
  rw [bv_flat] at hL
  exact hk bo w hL hB
end
theorem Br.beq {a b : Bool} {A B : Prop} (h : a = b) (k : A) : Br (a == b) A B := Br.yes (by simp [h]) k
theorem app_new {room n : Nat} {nm : ByteArray} (h : 1 ≤ nm.size ∧ nm.size ≤ 64) (hn : n ≤ room) : appE room [] nm n = 0 := by
  rw [appE, if_neg (fun h' => h' h), if_neg]
  simp [totS]; omega
theorem appS_new {room : Nat} {nm : ByteArray} {xs : List UInt8} (h : 1 ≤ nm.size ∧ nm.size ≤ 64) (hn : xs.length ≤ room) : appS room [] nm xs = [⟨nm, xs, 0⟩] := by
  rw [appS, app_new h hn]; rfl
theorem app_one {room n la : Nat} {nm : ByteArray} {d : List UInt8} (h : 1 ≤ nm.size ∧ nm.size ≤ 64) (hn : d.length + n ≤ room) : appE room [⟨nm, d, la⟩] nm n = 0 := by
  rw [appE, if_neg (fun h' => h' h), if_neg]
  simp [totS, getS]; omega
theorem appS_one {room la : Nat} {nm : ByteArray} {d xs : List UInt8} (h : 1 ≤ nm.size ∧ nm.size ≤ 64) (hn : d.length + xs.length ≤ room) : appS room [⟨nm, d, la⟩] nm xs = [⟨nm, d ++ xs, la⟩] := by
  rw [appS, app_one h hn]; simp [appF, getS, putS]
theorem get_one (f : Fl) : getS [f] f.nm = some f := by simp [getS]
theorem sync_one (nm : ByteArray) (d : List UInt8) (la : Nat) : syncS [⟨nm, d, la⟩] nm = [⟨nm, d, d.length⟩] := by simp [syncS, getS, putS]
theorem i64_wf {n : Int} (h : (Lit.int .i64 n).wf = true) : -9223372036854775808 ≤ n ∧ n ≤ 9223372036854775807 := by
  simp only [Lit.wf, IntKind.min, IntKind.max, IntKind.bits, IntKind.signed, Bool.and_eq_true, decide_eq_true_eq] at h
  simp at h; omega
theorem own_shape {w : World} {B : Nat} {e : TypeId} {sz n : Nat} {v : Value} {xs : List Value} (h : w.ownsRow B e sz v n xs) : (v = .slice none 0 0 ∧ n = 0) ∨ ∃ g c, v = .slice (some ⟨g, 0, none⟩) n c ∧ n ≤ c := by
  rcases h.2 with h | ⟨g, cap, cur, rfl, _, _, h1, _⟩
  · exact .inl h
  · exact .inr ⟨g, cap, rfl, h1⟩

/-- a mask keeps any number small -/
theorem Bt.maskI {a b : Int} {K : Int → Prop} (m : Nat) (hm : m < 9223372036854775808) (hb : b = m) (h : ∀ T : Nat, T ≤ m → K (T : Int)) : Bt .and .i64 a b K := by
  subst hb
  refine Bt.mk ?_
  show K (IntKind.i64.wrap ((BitVec.ofInt 64 a &&& BitVec.ofInt 64 (m : Int)).toNat : Int))
  rw [BitVec.toNat_and, ofInt_nat _ m (by omega), wrap_i64n _ (by have := Nat.and_le_right (n := (BitVec.ofInt 64 a).toNat) (m := m); omega)]
  exact h _ Nat.and_le_right
theorem Sep.swl {P : Program} {B : Nat} {w0 w : World} {F X Y : List Res} (h : Sep P B w0 w ((F ++ X) ++ Y)) : Sep P B w0 w ((F ++ Y) ++ X) := by
  refine h.perm ?_
  rw [List.append_assoc, List.append_assoc]
  exact List.perm_append_comm.append_left F
theorem rot_one {nm : ByteArray} {d : List UInt8} {la : Nat} (n : Int) (x : UInt8) : ∃ d', d'.length = d.length ∧ rotS [⟨nm, d, la⟩] nm n x = [⟨nm, d', la⟩] := by
  unfold rotS
  rw [get_one ⟨nm, d, la⟩]
  dsimp only
  split
  · exact ⟨d, rfl, rfl⟩
  · exact ⟨rotL d n.toNat x, by simp [rotL], by simp [putS]⟩
theorem u8_wf {n : Int} (h : (Lit.int .u8 n).wf = true) : ∃ x : UInt8, n = (x.toNat : Int) := by
  simp only [Lit.wf, IntKind.min, IntKind.max, IntKind.bits, IntKind.signed, Bool.and_eq_true, decide_eq_true_eq] at h
  simp at h
  refine ⟨UInt8.ofNat n.toNat, ?_⟩
  have : n.toNat < 256 := by omega
  simp [UInt8.toNat_ofNat', Nat.mod_eq_of_lt this]
  omega
theorem del_one (f : Fl) : delS [f] f.nm = [] := by simp [delS]

end Go.Proofs.YtjafamiaahabgaaDoor
