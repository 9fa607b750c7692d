/- Steps of a walk whose thing is found by itself. Nothing is claimed here. -/
import Derived.Test.YtjafamiaahabgaaDoorSS
import Derived.Test.YtjafamiaahabgaaDoorTy
namespace Go.Proofs.YtjafamiaahabgaaDoor
open Go.RowKit
set_option linter.unusedVariables false
set_option linter.unusedSimpArgs false

theorem at0 {R : Res} {L : List Res} : (R :: L)[0]? = some R := rfl
theorem atS {R Q : Res} {L : List Res} {n : Nat} (h : L[n]? = some R) : (Q :: L)[n + 1]? = some R := h
def ldL (d : Td) (cs : List Value) (i : Nat) : Option Value := match d.sh.agg with
  | false => lget cs i
  | true => match Nat.ble (i + d.size) (llen cs) with
    | true => some (.agg (takeL (dropL cs i) d.size).toArray)
    | false => none
section
variable {P : Program} {T : Tab} (hT : TabOk P T) {B : Nat} {w0 w : World} {L : List Res}
include hT
theorem Ld.x (hL : Sep P B w0 w L) {t : TypeId} {d : Td} {b i n : Nat} {K : Value → Prop} {v : Value} {cs : List Value} {e : TypeId} (hk : K v) (hl : look T t = some d := by rfl)
    (hn : L[n]? = some (.blk b cs e) := by repeat (first | exact at0 | apply atS)) (hv : ldL d cs i = some v := by rfl) : Ld P w t ⟨b, i, none⟩ K := by
  unfold ldL at hv
  split at hv
  · rename_i ha
    exact Ld.sep hT hL n hl ha hn hv hk
  · rename_i ha
    split at hv
    · rename_i hi
      injection hv with hv
      subst hv
      exact Ld.seps hT hL n hl ha hn hi hk
    · cases hv
theorem Ld.p (hL : Sep P B w0 w L) {t : TypeId} {d : Td} {b i : Nat} {K : Value → Prop} {v : Value} {cs : List Value} {e : TypeId} (hk : K v) (hC : Blk w0 b cs e := by assumption) (hl : look T t = some d := by rfl)
    (hv : ldL d cs i = some v := by rfl) (hB : B = w0.heap.size := by rfl) : Ld P w t ⟨b, i, none⟩ K := by
  unfold ldL at hv
  split at hv
  · rename_i ha
    exact Ld.old hT hL hC hB hl ha hv hk
  · rename_i ha
    split at hv
    · rename_i hi
      injection hv with hv
      subst hv
      exact Ld.olds hT hL hC hB hl ha hi hk
    · cases hv
omit hT in
theorem Sep.cls (hL : Sep P B w0 w L) : ∀ x, x = w → Sep P B w0 x L := fun x h => by subst h; exact hL
/-- in a class of worlds that all hold these things -/
theorem Lq.x {C : World → Prop} {t : TypeId} {d : Td} {b i n : Nat} {K : Value → Prop} {v : Value} {cs : List Value} {e : TypeId} (hc : ∀ x, C x → Sep P B w0 x L) (hk : K v) (hl : look T t = some d := by rfl)
    (hn : L[n]? = some (.blk b cs e) := by repeat (first | exact at0 | apply atS)) (hv : ldL d cs i = some v := by rfl) : Lq P C t ⟨b, i, none⟩ K :=
  Lq.of_class (fun x hx => Ld.x (K := fun u => u = v) hT (hc x hx) rfl hl hn hv) hk
theorem Lq.p {C : World → Prop} {t : TypeId} {d : Td} {b i : Nat} {K : Value → Prop} {v : Value} {cs : List Value} {e : TypeId} (hc : ∀ x, C x → Sep P B w0 x L) (hk : K v) (hC : Blk w0 b cs e := by assumption) (hl : look T t = some d := by rfl)
    (hv : ldL d cs i = some v := by rfl) (hB : B = w0.heap.size := by rfl) : Lq P C t ⟨b, i, none⟩ K :=
  Lq.of_class (fun x hx => Ld.p (K := fun u => u = v) hT (hc x hx) rfl hC hl hv hB) hk
theorem St.x (hL : Sep P B w0 w L) (hB : B ≤ w.heap.size) {t : TypeId} {d : Td} {b i n : Nat} {v : Value} {K : World → Prop} {cs : List Value} {e : TypeId} 
    (hk : ∀ w', Sep P B w0 w' (L.set n (.blk b (splice cs i (cellsL v)) e)) → B ≤ w'.heap.size → K w') (hl : look T t = some d := by rfl) (hs : Nat.beq (llen (cellsL v)) d.size = true := by rfl) (h1 : allOne (cellsL v) = true := by rfl) (hn : L[n]? = some (.blk b cs e) := by repeat (first | exact at0 | apply atS)) (hi : Nat.ble (i + d.size) (llen cs) = true := by rfl) : St P w t ⟨b, i, none⟩ v K :=
  St.sep hT hL n hl hs h1 hn hi hB hk
omit hT in
theorem An.x (hL : Sep P B w0 w L) {L' : List Res} {Q : Prop} (k : Q) (hs : L'.Sublist L := by repeat (first | exact List.Sublist.refl _ | refine List.Sublist.cons_cons _ ?_ | refine List.Sublist.cons _ ?_)) : Sep P B w0 w L' ∧ Q := ⟨hL.sub hs, k⟩
end
/-- a row of one's own, to be handed on -/
theorem Sep.ownR {P : Program} {B : Nat} {w0 w : World} {L : List Res} (h : Sep P B w0 w L) {i : Nat} {e : TypeId} {sz n : Nat} {v : Value} {xs : List Value} (hi : L[i]? = some (.row e sz v n xs)) : w.ownsRow B e sz v n xs :=
  own_raise (h.at hi) fun b hb => h.own _ (List.mem_of_getElem? hi) b (mem_rowB.2 hb)
theorem SlN.rowOf {w : World} {sz b o n m c : Nat} {xs : List Value} (h : SlN w sz (.slice (some ⟨b, o, none⟩) n c) m xs) : Row w b o xs := by
  obtain ⟨a', c', he, h1, h2, h3, h4⟩ := h.of
  injection he with e1 e2 e3
  subst e1
  exact Row.of_cells (Row.cells (h4 _ rfl))
theorem Br.t {p : Prop} [Decidable p] {A B : Prop} (h : A) (hp : p := by omega) : Br (decide p) A B := Br.dec_t hp h
theorem Br.f {p : Prop} [Decidable p] {A B : Prop} (h : B) (hp : ¬p := by omega) : Br (decide p) A B := Br.dec_f hp h
theorem Br.y {b : Bool} {A B : Prop} (h : A) (hb : b = true := by assumption) : Br b A B := Br.yes hb h
theorem Br.n {b : Bool} {A B : Prop} (h : B) (hb : b = false := by assumption) : Br b A B := Br.no hb h
theorem Ar.s {z : Int} {K : Int → Prop} (h : K z) (h0 : -9223372036854775808 ≤ z := by omega) (h1 : z ≤ 9223372036854775807 := by omega) : Ar .i64 z K := Ar.i64 h0 h1 h
theorem Ar.u {z : Int} {K : Int → Prop} (h : K z) (h0 : 0 ≤ z := by omega) (h1 : z ≤ 18446744073709551615 := by omega) : Ar .u64 z K := Ar.u64 h0 h1 h
theorem Ar.h {z : Int} {K : Int → Prop} (h : K z) (h0 : 0 ≤ z := by omega) (h1 : z ≤ 4294967295 := by omega) : Ar .u32 z K := Ar.u32 h0 h1 h
theorem Ar.b {z : Int} {K : Int → Prop} (h : K z) (h0 : 0 ≤ z := by omega) (h1 : z ≤ 255 := by omega) : Ar .u8 z K := Ar.u8 h0 h1 h
theorem Chk.m {A B : Prop} (h' : B) (h : A := by omega) : Chk A B := Chk.mk h h'
end Go.Proofs.YtjafamiaahabgaaDoor
