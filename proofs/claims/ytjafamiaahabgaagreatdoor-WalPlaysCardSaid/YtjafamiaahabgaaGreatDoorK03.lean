/- Steps of a walk whose thing is found by itself. Copies into blocks and rows at a place; arrays of bytes compared. Nothing is claimed here. -/
import Derived.Test.YtjafamiaahabgaaGreatDoorK02
import Derived.Laws.CopyRow
namespace Go.Proofs.YtjafamiaahabgaaGreatDoor
open Go.RowKit
set_option linter.unusedVariables false
set_option linter.unusedSimpArgs false

theorem at0 {R : Res} {L : List Res} : (R :: L)[0]? = some R := rfl
theorem atS {R Q : Res} {L : List Res} {n : Nat} (h : L[n]? = some R) : (Q :: L)[n + 1]? = some R := h
def ldL (d : Td) (cs : List Value) (i : Nat) : Option Value := match d.sh.agg with
  | false => lget cs i
  | true => match Nat.ble (i + d.size) (llen cs) with
    | true => some (.agg (takeL (dropL cs i) d.size).toArray)
    | false => none
section
variable {P : Program} {T : Tab} (hT : TabOk P T) {B : Nat} {w0 w : World} {L : List Res}
include hT
theorem Ld.x (hL : Sep P B w0 w L) {t : TypeId} {d : Td} {b i n : Nat} {K : Value → Prop} {v : Value} {cs : List Value} {e : TypeId} (hk : K v) (hl : look T t = some d := by rfl)
    (hn : L[n]? = some (.blk b cs e) := by repeat (first | exact at0 | apply atS)) (hv : ldL d cs i = some v := by rfl) : Ld P w t ⟨b, i, none⟩ K := by
  unfold ldL at hv
  split at hv
  · rename_i ha
    exact Ld.sep hT hL n hl ha hn hv hk
  · rename_i ha
    split at hv
    · rename_i hi
      injection hv with hv
      subst hv
      exact Ld.seps hT hL n hl ha hn hi hk
    · cases hv
theorem Ld.p (hL : Sep P B w0 w L) {t : TypeId} {d : Td} {b i : Nat} {K : Value → Prop} {v : Value} {cs : List Value} {e : TypeId} (hk : K v) (hC : Blk w0 b cs e := by assumption) (hl : look T t = some d := by rfl)
    (hv : ldL d cs i = some v := by rfl) (hB : B = w0.heap.size := by rfl) : Ld P w t ⟨b, i, none⟩ K := by
  unfold ldL at hv
  split at hv
  · rename_i ha
    exact Ld.old hT hL hC hB hl ha hv hk
  · rename_i ha
    split at hv
    · rename_i hi
      injection hv with hv
      subst hv
      exact Ld.olds hT hL hC hB hl ha hi hk
    · cases hv
omit hT in
theorem Sep.cls (hL : Sep P B w0 w L) : ∀ x, x = w → Sep P B w0 x L := fun x h => by subst h; exact hL
/-- in a class of worlds that all hold these things -/
theorem Lq.x {C : World → Prop} {t : TypeId} {d : Td} {b i n : Nat} {K : Value → Prop} {v : Value} {cs : List Value} {e : TypeId} (hc : ∀ x, C x → Sep P B w0 x L) (hk : K v) (hl : look T t = some d := by rfl)
    (hn : L[n]? = some (.blk b cs e) := by repeat (first | exact at0 | apply atS)) (hv : ldL d cs i = some v := by rfl) : Lq P C t ⟨b, i, none⟩ K :=
  Lq.of_class (fun x hx => Ld.x (K := fun u => u = v) hT (hc x hx) rfl hl hn hv) hk
theorem Lq.p {C : World → Prop} {t : TypeId} {d : Td} {b i : Nat} {K : Value → Prop} {v : Value} {cs : List Value} {e : TypeId} (hc : ∀ x, C x → Sep P B w0 x L) (hk : K v) (hC : Blk w0 b cs e := by assumption) (hl : look T t = some d := by rfl)
    (hv : ldL d cs i = some v := by rfl) (hB : B = w0.heap.size := by rfl) : Lq P C t ⟨b, i, none⟩ K :=
  Lq.of_class (fun x hx => Ld.p (K := fun u => u = v) hT (hc x hx) rfl hC hl hv hB) hk
theorem St.x (hL : Sep P B w0 w L) (hB : B ≤ w.heap.size) {t : TypeId} {d : Td} {b i n : Nat} {v : Value} {K : World → Prop} {cs : List Value} {e : TypeId} 
    (hk : ∀ w', Sep P B w0 w' (L.set n (.blk b (splice cs i (cellsL v)) e)) → B ≤ w'.heap.size → K w') (hl : look T t = some d := by rfl) (hs : Nat.beq (llen (cellsL v)) d.size = true := by rfl) (h1 : allOne (cellsL v) = true := by rfl) (hn : L[n]? = some (.blk b cs e) := by repeat (first | exact at0 | apply atS)) (hi : Nat.ble (i + d.size) (llen cs) = true := by rfl) : St P w t ⟨b, i, none⟩ v K :=
  St.sep hT hL n hl hs h1 hn hi hB hk
omit hT in
theorem An.x (hL : Sep P B w0 w L) {L' : List Res} {Q : Prop} (k : Q) (hs : L'.Sublist L := by repeat (first | exact List.Sublist.refl _ | refine List.Sublist.cons_cons _ ?_ | refine List.Sublist.cons _ ?_)) : Sep P B w0 w L' ∧ Q := ⟨hL.sub hs, k⟩
end
/-- a row of one's own, to be handed on -/
theorem Sep.ownR {P : Program} {B : Nat} {w0 w : World} {L : List Res} (h : Sep P B w0 w L) {i : Nat} {e : TypeId} {sz n : Nat} {v : Value} {xs : List Value} (hi : L[i]? = some (.row e sz v n xs)) : w.ownsRow B e sz v n xs :=
  own_raise (h.at hi) fun b hb => h.own _ (List.mem_of_getElem? hi) b (mem_rowB.2 hb)
theorem SlN.rowOf {w : World} {sz b o n m c : Nat} {xs : List Value} (h : SlN w sz (.slice (some ⟨b, o, none⟩) n c) m xs) : Row w b o xs := by
  obtain ⟨a', c', he, h1, h2, h3, h4⟩ := h.of
  injection he with e1 e2 e3
  subst e1
  exact Row.of_cells (Row.cells (h4 _ rfl))
theorem Br.t {p : Prop} [Decidable p] {A B : Prop} (h : A) (hp : p := by omega) : Br (decide p) A B := Br.dec_t hp h
theorem Br.f {p : Prop} [Decidable p] {A B : Prop} (h : B) (hp : ¬p := by omega) : Br (decide p) A B := Br.dec_f hp h
theorem Br.y {b : Bool} {A B : Prop} (h : A) (hb : b = true := by assumption) : Br b A B := Br.yes hb h
theorem Br.n {b : Bool} {A B : Prop} (h : B) (hb : b = false := by assumption) : Br b A B := Br.no hb h
theorem Ar.s {z : Int} {K : Int → Prop} (h : K z) (h0 : -9223372036854775808 ≤ z := by omega) (h1 : z ≤ 9223372036854775807 := by omega) : Ar .i64 z K := Ar.i64 h0 h1 h
theorem Ar.u {z : Int} {K : Int → Prop} (h : K z) (h0 : 0 ≤ z := by omega) (h1 : z ≤ 18446744073709551615 := by omega) : Ar .u64 z K := Ar.u64 h0 h1 h
theorem Ar.h {z : Int} {K : Int → Prop} (h : K z) (h0 : 0 ≤ z := by omega) (h1 : z ≤ 4294967295 := by omega) : Ar .u32 z K := Ar.u32 h0 h1 h
theorem Ar.b {z : Int} {K : Int → Prop} (h : K z) (h0 : 0 ≤ z := by omega) (h1 : z ≤ 255 := by omega) : Ar .u8 z K := Ar.u8 h0 h1 h
theorem Chk.m {A B : Prop} (h' : B) (h : A := by omega) : Chk A B := Chk.mk h h'
end Go.Proofs.YtjafamiaahabgaaGreatDoor
namespace Go.Proofs.YtjafamiaahabgaaGreatDoor
open Go.RowKit Go.MapKept
open Go.Maps (Keyed)
set_option linter.unusedVariables false
set_option linter.unusedSimpArgs false

theorem set_same {α : Type} {L : List α} {n : Nat} {a : α} (h : L[n]? = some a) : L.set n a = L := by
  apply List.ext_getElem?
  intro i
  rw [List.getElem?_set]
  split
  · rename_i e; subst e
    rw [h]; simp [(List.getElem?_eq_some_iff.1 h).1]
  · rfl
/-- thing number i alone -/
theorem Sep.one {P : Program} {B : Nat} {w0 w : World} {L : List Res} (h : Sep P B w0 w L) {i : Nat} {R : Res} (hi : L[i]? = some R) : Sep P B w0 w [R] := h.sub (List.singleton_sublist.2 (List.mem_of_getElem? hi))
/-- thing number n told in another way -/
theorem Sep.saidN {P : Program} {B : Nat} {w0 w : World} {L : List Res} (h : Sep P B w0 w L) (n : Nat) {R R' : Res} (hn : L[n]? = some R) (hR : R'.holds P w) (hb : R'.blocks = R.blocks) : Sep P B w0 w (L.set n R') := by
  refine ⟨h.below, fun Q hQ => ?_, fun Q hQ b hb' => ?_, ?_⟩
  · rcases List.mem_or_eq_of_mem_set hQ with hQ | rfl
    · exact h.hold Q hQ
    · exact hR
  · rcases List.mem_or_eq_of_mem_set hQ with hQ | rfl
    · exact h.own Q hQ b hb'
    · exact h.own R (List.mem_of_getElem? hn) b (hb ▸ hb')
  · have e : (L.set n R').flatMap Res.blocks = L.flatMap Res.blocks := by
      rw [List.flatMap_def, List.flatMap_def, List.map_set, hb, set_same (by rw [List.getElem?_map, hn]; rfl)]
    rw [e]; exact h.apart
section
variable {P : Program} {T : Tab} (hT : TabOk P T) {B : Nat} {w0 w : World} {L : List Res} (hL : Sep P B w0 w L)
include hT hL
/-- copy into a block, at a place -/
theorem Rv.copyB {K : Value → World → Prop} {t e ty : TypeId} {s b' by' : Nat} {z ez : Value} {sh : Sh} (n : Nat) {g o len cap : Nat} {cs : List Value} {te : TypeId} (ht : look T t = some ⟨.slice e, s, b', z⟩) (he : look T e = some ⟨sh, 1, by', ez⟩)
    (hn : L[n]? = some (.blk g cs te)) {x : Value} {news : List Value} (hs : Sl w x news) (h1 : ∀ u ∈ news, u.oneCell' = true) (hfit : o + len ≤ cs.length) (hB : B ≤ w.heap.size)
    (hk : ∀ w', Sep P B w0 w' (L.set n (.blk g (splice cs o (news.take len)) te)) → B ≤ w'.heap.size → K (.int .i64 (min len news.length : Nat)) w') :
    Rv P (Builtin.copy_ #[t, t] ty #[.slice (some ⟨g, o, none⟩) len cap, x]) w K := by
  have hu := und_slice hT ht
  obtain ⟨i, hi, hiz, his, hib⟩ := (hT _ _ he).inf
  have hsz : (P.info? e).map (·.size) = some 1 := by rw [hi]; simp [his]
  have hblk : Blk w g cs te := hL.blk hn
  rcases hs.cases with ⟨rfl, rfl⟩ | ⟨ad, c, rfl, e1, e2, hr⟩
  · have e0 : splice cs o (([] : List Value).take len) = cs := by rw [List.take_nil, splice_eq _ _ _ (by simp; omega)]; simp
    have hk' := hk w (by rw [e0, set_same hn]; exact hL) hB
    exact Rv.mk (run_copy_nil (P := P) w t t ty e ⟨g, o, none⟩ len cap hu (by rw [hi]; rfl)) (show K (.int .i64 0) w from by simpa using hk')
  · have hm : (news.take len).length = Nat.min news.length len := by rw [List.length_take, Nat.min_comm]
    have hr2 := run_copy_row (P := P) w t t ty e g o len cap ad news.length c cs.toArray te (news.take len) hu hsz hblk hm
      (fun j v hj => hr j v (by rw [List.getElem?_take] at hj; split at hj; exact hj; cases hj)) (by rw [List.length_take]; simp; omega) (fun v hv => h1 v (List.mem_of_mem_take hv))
    have hlen : (news.take len).length = min len news.length := List.length_take
    have hle : o + (news.take len).length ≤ cs.length := by omega
    have ht' : Turns w (w.setRow g ((cs.toArray).toList.take o ++ news.take len ++ (cs.toArray).toList.drop (o + (news.take len).length)).toArray) [g] := ⟨rfl, rfl, rfl, by simp, fun k _ hk => setRow_other w g k _ (fun e => hk (by simp [e]))⟩
    have hk' := hk _ (hL.step hn hB ht' (R' := .blk g (splice cs o (news.take len)) te) (by
      show (World.heap _)[g]? = _
      rw [splice_eq _ _ _ hle]
      exact setRow_heap w g cs.toArray _ te _ hblk) (fun c hc => .inl hc) (by simp [Res.blocks])) (Nat.le_trans hB ht'.size)
    rw [← hlen] at hk'
    exact Rv.mk hr2 hk'
/-- copy into a row of one's own, at a place -/
theorem Rv.copyR {K : Value → World → Prop} {t e ty : TypeId} {s b' by' : Nat} {z ez : Value} {sh : Sh} (n : Nat) {g o len cap cap0 m : Nat} {xs : List Value} (ht : look T t = some ⟨.slice e, s, b', z⟩) (he : look T e = some ⟨sh, 1, by', ez⟩)
    (hn : L[n]? = some (.row e 1 (.slice (some ⟨g, 0, none⟩) m cap0) m xs)) {x : Value} {news : List Value} (hs : Sl w x news) (h1 : ∀ u ∈ news, u.oneCell' = true) (hfit : o + len ≤ m) (hB : B ≤ w.heap.size)
    (hk : ∀ w', Sep P B w0 w' (L.set n (.row e 1 (.slice (some ⟨g, 0, none⟩) m cap0) m (splice xs o (news.take len)))) → B ≤ w'.heap.size → K (.int .i64 (min len news.length : Nat)) w') :
    Rv P (Builtin.copy_ #[t, t] ty #[.slice (some ⟨g, o, none⟩) len cap, x]) w K := by
  have hu := und_slice hT ht
  obtain ⟨i, hi, hiz, his, hib⟩ := (hT _ _ he).inf
  have hsz : (P.info? e).map (·.size) = some 1 := by rw [hi]; simp [his]
  have hrow : w.ownsRow 0 e 1 (.slice (some ⟨g, 0, none⟩) m cap0) m xs := hL.at hn
  have hxl : xs.length = m := by have := hrow.1; omega
  rcases hs.cases with ⟨rfl, rfl⟩ | ⟨ad, c, rfl, e1, e2, hr⟩
  · have e0 : splice xs o (([] : List Value).take len) = xs := by rw [List.take_nil, splice_eq _ _ _ (by simp; omega)]; simp
    have hk' := hk w (by rw [e0, set_same hn]; exact hL) hB
    exact Rv.mk (run_copy_nil (P := P) w t t ty e ⟨g, o, none⟩ len cap hu (by rw [hi]; rfl)) (show K (.int .i64 0) w from by simpa using hk')
  · rcases hrow.2 with ⟨h', _⟩ | ⟨g', cap', cur, h', hb0, hg, hnc, hcm, hcs, htake⟩
    · simp at h'
    simp only [Value.slice.injEq, Option.some.injEq, Addr.mk.injEq, and_true, true_and] at h'
    obtain ⟨rfl, rfl⟩ := h'
    simp only [Nat.mul_one] at *
    have hm : (news.take len).length = Nat.min news.length len := by rw [List.length_take, Nat.min_comm]
    have hlen : (news.take len).length = min len news.length := List.length_take
    have hr2 := run_copy_row (P := P) w t t ty e g o len cap ad news.length c cur e (news.take len) hu hsz hg hm
      (fun j v hj => hr j v (by rw [List.getElem?_take] at hj; split at hj; exact hj; cases hj)) (by omega) (fun v hv => h1 v (List.mem_of_mem_take hv))
    have ht' : Turns w (w.setRow g (cur.toList.take o ++ news.take len ++ cur.toList.drop (o + (news.take len).length)).toArray) [g] := ⟨rfl, rfl, rfl, by simp, fun k _ hk => setRow_other w g k _ (fun e => hk (by simp [e]))⟩
    have hsp : (splice xs o (news.take len)).length = m := by rw [splice_eq _ _ _ (by omega)]; simp; omega
    have hk' := hk _ (hL.step hn hB (by simpa [Res.blocks, Value.ownBlock, rowB] using ht') (R' := .row e 1 (.slice (some ⟨g, 0, none⟩) m cap0) m (splice xs o (news.take len))) (show World.ownsRow _ 0 e 1 _ m _ from ⟨by rw [hsp]; omega, .inr ⟨g, cap0, _, rfl, hb0, setRow_heap w g cur _ e _ hg, hnc, hcm, by
        simp only [List.size_toArray, List.length_append, List.length_take, List.length_drop, Array.length_toList]; omega, by
        rw [Nat.mul_one, splice_eq xs o _ (by omega)]
        generalize news.take len = vs at *
        rw [← htake]
        exact take_splice _ _ _ _ (by omega) (by simp; omega)⟩⟩) (fun c hc => .inl hc) (by simp [Res.blocks, Value.ownBlock, rowB])) (Nat.le_trans hB ht'.size)
    rw [← hlen] at hk'
    exact Rv.mk hr2 hk'
end
section
variable {P : Program} {T : Tab} (hT : TabOk P T)
include hT
/-- an array of bytes is a key -/
theorem good_arr8 {t e : TypeId} {n s b b1 : Nat} {z z1 : Value} (ht : look T t = some ⟨.array n e, s, b, z⟩) (he : look T e = some ⟨.int .u8, 1, b1, z1⟩) (hs : s = n) (hk : P.keyType t = true) (hD : 1 ≤ P.types.size) (l : List UInt8) (hl : l.length = n) : Good P t (.agg (bv l).toArray) := by
  obtain ⟨u, hu, hsh⟩ := shOf_cases hT ht
  cases u <;> simp only [shOf, reduceCtorEq, Sh.array.injEq] at hsh
  obtain ⟨rfl, rfl⟩ := hsh
  rename_i n' e'
  obtain ⟨u2, hu2, hsh2⟩ := shOf_cases hT he
  cases u2 <;> simp only [shOf, reduceCtorEq, Sh.int.injEq] at hsh2
  subst hsh2
  have hc : P.cellsOf t = l.length := by rw [cellsOf_td hT ht]; exact hs.trans hl.symm
  have hce : P.cellsOf e' = 1 := cellsOf_td hT he
  obtain ⟨D, hD'⟩ : ∃ D, P.types.size = D + 1 := ⟨P.types.size - 1, by omega⟩
  obtain ⟨ls, hls⟩ := mapM_some (l := List.range l.length) (f := fun i => P.keyLits (D + 1) e' (((bv l).drop (i * P.cellsOf e')).take (P.cellsOf e'))) fun i hi => by
    have hi' : i < l.length := List.mem_range.1 hi
    rw [hce, Nat.mul_one]
    have e1 : ((bv l).drop i).take 1 = [u8 l[i]] := by
      rw [List.drop_eq_getElem_cons (by simpa using hi')]
      simp [bv]
    refine ⟨[.int .u8 (l[i].toNat : Int)], ?_⟩
    rw [e1, u8]
    simp only [Program.keyLits, hu2]
    rw [if_pos]
    refine ⟨trivial, ?_⟩
    have := l[i].toNat_lt
    simp only [Lit.wf, IntKind.min, IntKind.max, IntKind.bits, IntKind.signed, Bool.and_eq_true, decide_eq_true_eq]
    simp; omega
  refine ⟨.string (keyBytes ls.flatten), ?_⟩
  have hcl : (bv l).length = P.cellsOf t := by rw [hc, bv_length]
  have hk1 : ∀ d, P.keyLits (d + 1) t (bv l) = ((List.range n').mapM fun i => P.keyLits d e' (((bv l).drop (i * P.cellsOf e')).take (P.cellsOf e'))).map List.flatten := fun d => by
    simp only [Program.keyLits, hu]
    rw [if_pos hcl]
  have hkl : P.keyLits (P.types.size + 1) t (bv l) = some ls.flatten := by
    rw [hD', hk1, ← hl, hls]; rfl
  simp only [keyOf, hu, hk, Value.formed, List.size_toArray, hcl, beq_self_eq_true, Bool.and_self, if_true, Value.cells, hkl, Option.map_some]
end
section
variable {P : Program} {T : Tab} (hT : TabOk P T) {B : Nat} {w0 w : World} {L : List Res} (hL : Sep P B w0 w L)
include hT hL
/-- several cells out of a block, told as a list -/
theorem Ld.blkV {t : TypeId} {d : Td} {b i : Nat} {K : Value → Prop} (n : Nat) {cs : List Value} {e : TypeId} (vs : List Value) (hl : look T t = some d) (ha : d.sh.agg = true) (hn : L[n]? = some (.blk b cs e)) (hv : (cs.drop i).take d.size = vs) (hi : i + d.size ≤ cs.length) (hk : K (.agg vs.toArray)) : Ld P w t ⟨b, i, none⟩ K := by
  refine Ld.seps hT hL n hl ha hn (by rw [llen_eq]; simpa using hi) ?_
  rw [takeL_eq, dropL_eq, hv]; exact hk
theorem St.blkV {t : TypeId} {d : Td} {b i : Nat} {K : World → Prop} (n : Nat) {cs : List Value} {e : TypeId} {vs : List Value} (hl : look T t = some d) (hs : vs.length = d.size) (h1 : ∀ u ∈ vs, u.oneCell' = true) (hn : L[n]? = some (.blk b cs e)) (hi : i + d.size ≤ cs.length) (hB : B ≤ w.heap.size)
    (hk : ∀ w', Sep P B w0 w' (L.set n (.blk b (splice cs i vs) e)) → B ≤ w'.heap.size → K w') : St P w t ⟨b, i, none⟩ (.agg vs.toArray) K := by
  have hall : ∀ {l : List Value}, (∀ u ∈ l, u.oneCell' = true) → allOne l = true := by
    intro l; induction l with
    | nil => intro _; rfl
    | cons a l ih => intro h; simp only [allOne]; rw [h a (by simp)]; exact ih fun u hu => h u (by simp [hu])
  exact St.sep hT hL n hl (by rw [llen_eq]; simp [cellsL, hs]) (hall (by simpa [cellsL] using h1)) hn (by rw [llen_eq]; simpa using hi) hB (by simpa [cellsL] using hk)
/-- a block is written whole -/
theorem St.blkW {t : TypeId} {d : Td} {b : Nat} {K : World → Prop} (n : Nat) {cs : List Value} {e : TypeId} {vs : List Value} (hl : look T t = some d) (hs : vs.length = d.size) (h1 : ∀ u ∈ vs, u.oneCell' = true) (hn : L[n]? = some (.blk b cs e)) (hi : cs.length = vs.length) (hB : B ≤ w.heap.size)
    (hk : ∀ w', Sep P B w0 w' (L.set n (.blk b vs e)) → B ≤ w'.heap.size → K w') : St P w t ⟨b, 0, none⟩ (.agg vs.toArray) K := by
  refine St.blkV hT hL n hl hs h1 hn (by omega) hB fun w' hL' hB' => hk w' ?_ hB'
  rwa [splice_eq _ _ _ (by omega), List.drop_eq_nil_of_le (by omega), List.take_zero, List.nil_append, List.append_nil] at hL'
/-- a block is read whole -/
theorem Ld.blkW {t : TypeId} {d : Td} {b : Nat} {K : Value → Prop} (n : Nat) {cs : List Value} {e : TypeId} (hl : look T t = some d) (ha : d.sh.agg = true) (hn : L[n]? = some (.blk b cs e)) (hi : cs.length = d.size) (hk : K (.agg cs.toArray)) : Ld P w t ⟨b, 0, none⟩ K :=
  Ld.blkV hT hL n cs hl ha hn (by rw [List.drop_zero]; exact List.take_of_length_le (by omega)) (by omega) hk
/-- make, the elements of one cell -/
theorem Rv.makeS {K : Value → World → Prop} {t e : TypeId} {s b by' : Nat} {z ez : Value} {sh : Sh} {kl kc : IntKind} {li ci : Int} (n c : Nat) (ht : look T t = some ⟨.slice e, s, b, z⟩) (he : look T e = some ⟨sh, 1, by', ez⟩)
    (hz : cellsL ez = [ez]) (hl : li = n) (hc : ci = c) (hnc : n ≤ c) (hb : by' * c ≤ 281474976710656) (h63 : c ≤ maxLen) (hB : B ≤ w.heap.size)
    (hk : ∀ g w', Sep P B w0 w' (.row e 1 (.slice (some ⟨g, 0, none⟩) n c) n (List.replicate n ez) :: L) → B ≤ w'.heap.size → K (.slice (some ⟨g, 0, none⟩) n c) w') :
    Rv P (Instr.makeSlice t (.int kl li) (.int kc ci)) w K :=
  Rv.make hT n c ht he hz hl hc hnc hb h63 fun w' ho hg => hk _ w' (hL.addRow hB (below_of_grown0 hg (Nat.le_refl _)) ho) (Nat.le_trans hB hg.size)
end
theorem splice_bv (X Y : List UInt8) (o : Nat) (h : o + Y.length ≤ X.length) : splice (bv X) o (bv Y) = bv (X.take o ++ Y ++ X.drop (o + Y.length)) := by
  rw [splice_eq _ _ _ (by simpa using h), bv_append, bv_append, bv_take, bv_drop, bv_length]
theorem splice_tail (A Y : List UInt8) (m n o : Nat) (ho : o = A.length) (hm : m = Y.length + n) : splice (bv (A ++ List.replicate m 0)) o (bv Y) = bv ((A ++ Y) ++ List.replicate n 0) := by
  subst ho; subst hm
  rw [splice_bv _ _ _ (by simp)]
  congr 1
  rw [List.take_left' rfl, List.drop_append, List.drop_eq_nil_of_le (by omega), List.nil_append]
  simp
theorem sl_blk {w : World} {b o n c : Nat} {cs : List Value} {e : TypeId} (h : Blk w b cs e) (hn : o + n ≤ cs.length) (hc : n ≤ c) (hm : c ≤ maxLen) : Sl w (.slice (some ⟨b, o, none⟩) n c) ((cs.drop o).take n) :=
  Sl.some' (by simp; omega) (by simp; omega) hm (by have := (h.row.drop o).take n; rwa [Nat.zero_add] at this)
end Go.Proofs.YtjafamiaahabgaaGreatDoor
