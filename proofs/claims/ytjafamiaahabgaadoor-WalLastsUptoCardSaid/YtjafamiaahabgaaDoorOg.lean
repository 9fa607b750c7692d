/- What comes in: slices of anything, opened. Nothing is claimed here. -/
import Derived.Test.YtjafamiaahabgaaDoorSc
import Derived.SizedLaws
namespace Go.Proofs.YtjafamiaahabgaaDoor
set_option linter.unusedVariables false
set_option linter.unusedSimpArgs false
theorem cell_spot {w : World} {a : Addr} {x : Value} (h : w.cell? a = some x) : a.spot = none := by
  unfold World.cell? at h
  split at h
  · split at h
    · cases h
    · rename_i hs
      cases hsp : a.spot with
      | none => rfl
      | some s => simp [hsp] at hs
  · cases h
/-! ### what an argument's reading says, and how big it is -/
def opz (P : Program) (T : Tab) (S : Nat) (w : World) : Nat → TypeId → List Value → Prop
  | 0 => fun _ _ => True
  | d + 1 => fun t cs => match look T t with
    | some ⟨sh, sz, _, _⟩ => match sh with
      | .bool => ∃ b, cs = [.bool b]
      | .int k => ∃ n, cs = [.int k n] ∧ (Lit.int k n).wf = true
      | .str => ∃ s, cs = [.string s] ∧ s.size ≤ S
      | .slice e => match look T e with
        | some ⟨_, sze, _, _⟩ => cs = [.slice none 0 0] ∨ ∃ a n c, cs = [.slice (some a) n c] ∧ n ≤ c ∧ c ≤ maxLen ∧ c * P.bytesOf e ≤ S ∧ ∀ i, i < c → elemO w a sze i fun es => opz P T S w d e es
        | none => True
      | .struct fs => cs.length = sz ∧ allF (fun f => match look T f.2 with
        | some ⟨_, sz, _, _⟩ => opz P T S w d f.2 (tkL (dpL cs f.1) sz)
        | none => True) fs
      | _ => True
    | none => True
theorem mapM_mem {α β : Type} {f : α → Option β} : ∀ {l : List α} {ys : List β}, l.mapM f = some ys → ys.length = l.length ∧ ∀ x ∈ l, ∃ y ∈ ys, f x = some y
  | [], ys, h => by simp at h; subst h; simp
  | a :: l, ys, h => by
    rw [List.mapM_cons] at h
    cases ha : f a with
    | none => simp [ha] at h
    | some b =>
      cases hl : l.mapM f with
      | none => simp [ha, hl] at h
      | some bs =>
        simp [ha, hl] at h
        subst h
        obtain ⟨h1, h2⟩ := mapM_mem hl
        refine ⟨by simp [h1], fun x hx => ?_⟩
        rcases List.mem_cons.1 hx with rfl | hx
        · exact ⟨b, by simp, ha⟩
        · obtain ⟨y, hy, he⟩ := h2 x hx
          exact ⟨y, by simp [hy], he⟩
theorem mapM_at {α β : Type} {f : α → Option β} : ∀ {l : List α} {ys : List β}, l.mapM f = some ys → ∀ (i : Nat) (x : α), l[i]? = some x → ∃ y, ys[i]? = some y ∧ f x = some y
  | [], ys, h, i, x, hx => by simp at hx
  | a :: l, ys, h, i, x, hx => by
    rw [List.mapM_cons] at h
    cases ha : f a with
    | none => simp [ha] at h
    | some b =>
      cases hl : l.mapM f with
      | none => simp [ha, hl] at h
      | some bs =>
        simp [ha, hl] at h
        subst h
        cases i with
        | zero => simp at hx; subst hx; exact ⟨b, rfl, ha⟩
        | succ i => exact mapM_at hl i x (by simpa using hx)
theorem weightsAll_mem {H : Type} {P : Program} {e : TypeId} : ∀ {ds : List (DataW H)} {d : DataW H}, d ∈ ds → ∀ n ∈ d.weights P e, n ∈ DataW.weightsAll P e ds
  | d0 :: ds, d, hd, n, hn => by
    rw [DataW.weightsAll]
    rcases List.mem_cons.1 hd with rfl | hd
    · exact List.mem_append.2 (.inl hn)
    · exact List.mem_append.2 (.inr (weightsAll_mem hd n hn))
section
variable {H : Type} {enc : TypeId × Value → H} {P : Program} {T : Tab} (hT : TabOk P T) {w : World} {S : Nat}
include hT
theorem trod_opz : ∀ (d fuel : Nat) (t : TypeId) (cs : List Value) (x : DataW H × List MemPlace), DataW.trod enc P w 0 (fun _ => true) true fuel t cs = some x → (∀ n ∈ x.1.weights P t, n ≤ S) → opz P T S w d t cs
  | 0, _, _, _, _, _, _ => trivial
  | d + 1, 0, t, cs, x, h, _ => by simp [DataW.trod] at h
  | d + 1, fuel + 1, t, cs, x, h, hW => by
    unfold opz
    split
    case h_2 => trivial
    rename_i sh sz _ _ hl
    obtain ⟨u, hu, hs⟩ := shOf_cases hT hl
    split
    · cases u <;> simp only [shOf, reduceCtorEq] at hs
      simp only [DataW.trod, hu] at h
      split at h <;> first | (simp at *; done) | cases h | skip
      all_goals simp_all
    · cases u <;> simp only [shOf, reduceCtorEq, Sh.int.injEq] at hs
      subst hs
      simp only [DataW.trod, hu] at h
      split at h <;> simp_all
    · cases u <;> simp only [shOf, reduceCtorEq] at hs
      rcases cs with _ | ⟨v, _ | ⟨v2, cs⟩⟩
      · simp [DataW.trod, hu] at h
      · cases v with
        | string s =>
          simp only [DataW.trod, hu] at h
          split at h
          · injection h with h
            subst h
            refine ⟨s, rfl, ?_⟩
            have := hW s.data.toList.length (by simp [DataW.weights])
            rw [Array.length_toList] at this
            exact this
          · cases h
        | _ => simp [DataW.trod, hu] at h
      · simp [DataW.trod, hu] at h
    · rename_i e
      cases u <;> simp only [shOf, reduceCtorEq, Sh.slice.injEq] at hs
      rename_i el
      subst hs
      split
      case h_2 => trivial
      rename_i sze _ _ hle
      have hsz : P.cellsOf el = sze := cellsOf_td hT hle
      rcases cs with _ | ⟨v, _ | ⟨v2, cs⟩⟩
      · simp [DataW.trod, hu] at h
      · cases v with
        | slice ao n c =>
          cases ao with
          | none =>
            cases n with
            | zero =>
              cases c with
              | zero => exact .inl rfl
              | succ c => simp [DataW.trod, hu] at h
            | succ n => simp [DataW.trod, hu] at h
          | some a =>
            simp only [DataW.trod, hu] at h
            right
            refine ⟨a, n, c, rfl, ?_⟩
            split at h
            case isFalse => cases h
            rename_i hcond
            rw [hsz] at h
            cases h1 : (List.range n).mapM (fun i => (w.cells? 0 (a.add (i * sze)) sze).bind (DataW.trod enc P w 0 (fun _ => true) true fuel el)) with
            | none => rw [h1] at h; simp at h
            | some elems =>
              rw [h1] at h
              simp only [Option.bind_some, if_true] at h
              cases h2 : (List.range (c - n)).mapM (fun j => (w.cells? 0 (a.add ((n + j) * sze)) sze).bind (DataW.trod enc P w 0 (fun _ => true) true fuel el)) with
              | none => rw [h2] at h; simp at h
              | some rest =>
                rw [h2] at h
                simp only [Option.map_some, Option.some.injEq] at h
                subst h
                obtain ⟨l1, m1⟩ := mapM_mem h1
                obtain ⟨l2, m2⟩ := mapM_mem h2
                simp only [List.length_range] at l1 l2
                simp only [DataW.weights, hu, List.mem_cons, List.mem_append, List.length_map, l1, l2] at hW
                refine ⟨hcond.2.1, hcond.2.2, ?_, fun i hi => ?_⟩
                · have := hW _ (.inl rfl)
                  rwa [show n + (c - n) = c from by omega] at this
                · have hy : ∃ y, (y ∈ elems ∨ y ∈ rest) ∧ (w.cells? 0 (a.add (i * sze)) sze).bind (DataW.trod enc P w 0 (fun _ => true) true fuel el) = some y := by
                    rcases Nat.lt_or_ge i n with h3 | h3
                    · obtain ⟨y, hy, he⟩ := m1 i (List.mem_range.2 h3)
                      exact ⟨y, .inl hy, he⟩
                    · obtain ⟨y, hy, he⟩ := m2 (i - n) (List.mem_range.2 (by omega))
                      rw [show n + (i - n) = i from by omega] at he
                      exact ⟨y, .inr hy, he⟩
                  obtain ⟨y, hym, hy⟩ := hy
                  cases h4 : w.cells? 0 (a.add (i * sze)) sze with
                  | none => rw [h4] at hy; simp at hy
                  | some es =>
                    rw [h4] at hy
                    obtain ⟨h5, h6⟩ := cells_get h4
                    refine ⟨es, h5, h6, trod_opz d fuel _ es y hy fun m hm => hW m (.inr ?_)⟩
                    rcases hym with hym | hym
                    · exact .inl (weightsAll_mem (List.mem_map_of_mem hym) m hm)
                    · exact .inr (weightsAll_mem (List.mem_map_of_mem hym) m hm)
        | _ => simp [DataW.trod, hu] at h
      · simp [DataW.trod, hu] at h
    · rename_i fs
      cases u <;> simp only [shOf, reduceCtorEq, Sh.struct.injEq] at hs
      rename_i fields
      have hsz : P.cellsOf t = sz := cellsOf_td hT hl
      simp only [DataW.trod, hu, hsz] at h
      split at h
      case isFalse => cases h
      rename_i hlen
      cases h1 : fields.toList.mapM (fun f => DataW.trod enc P w 0 (fun _ => true) true fuel f.type ((cs.drop f.offset).take (P.cellsOf f.type))) with
      | none => rw [h1] at h; simp at h
      | some xs =>
        rw [h1] at h
        simp only [Option.map_some, Option.some.injEq] at h
        subst h
        simp only [DataW.weights, hu] at hW
        refine ⟨hlen, allF_of fun f hf => ?_⟩
        split
        case h_2 => trivial
        rename_i szf _ _ hlf
        rw [← hs] at hf
        obtain ⟨fd, hfd, rfl⟩ := List.mem_map.1 hf
        obtain ⟨i, hi⟩ := List.getElem?_of_mem hfd
        obtain ⟨y, hyi, hy⟩ := mapM_at h1 i fd hi
        rw [tkL_eq, dpL_eq]
        rw [cellsOf_td hT hlf] at hy
        exact trod_opz d fuel fd.type _ y hy fun m hm => hW m (DataW.weights_mem_each (j := i) (by simp [hi]) (by simp [hyi]) m hm)
    · trivial
end
/-- a slice whose elements are said by something -/
theorem sl_open {α : Type} {w : World} {S : Nat} {t e : TypeId} {s b sz b1 d : Nat} {z z1 : Value} {sh : Sh} (ht : look TT t = some ⟨.slice e, s, b, z⟩) (he : look TT e = some ⟨sh, sz, b1, z1⟩) (hsz : 0 < sz) (f : α → List Value) (hf : ∀ x, (f x).length = sz) (Q : α → Prop)
    (el : ∀ es, es.length = sz → opz Tryd.prog TT S w d e es → ∃ p, es = f p ∧ Q p) {v : Value} (h : opz Tryd.prog TT S w (d + 1) t [v]) : ∃ xs : List α, SlN w sz v xs.length (xs.flatMap f) ∧ (∀ p ∈ xs, Q p) ∧ xs.length * Tryd.prog.bytesOf e ≤ S := by
  unfold opz at h
  simp only [ht, he] at h
  rcases h with h | ⟨x, n, c, h, h1, h2, hS, h3⟩
  · injection h with h
    subst h
    exact ⟨[], SlN.nil w sz, by simp, by simp⟩
  · injection h with h
    subst h
    have hev : ∀ i : Fin n, ∃ p : α, (∀ j x', (f p)[j]? = some x' → w.cell? ((x.add (i * sz)).add j) = some x') ∧ Q p := fun i => by
      obtain ⟨es, q1, q2, q3⟩ := h3 i (by omega)
      obtain ⟨p, rfl, q4⟩ := el es q1 q3
      exact ⟨p, q2, q4⟩
    have hl : ((List.finRange n).map fun i => (hev i).choose).length = n := by simp
    refine ⟨(List.finRange n).map fun i => (hev i).choose, ?_, ?_, by rw [hl]; exact Nat.le_trans (Nat.mul_le_mul_right _ h1) hS⟩
    · rw [hl]
      refine ⟨by rw [flat_len hf, hl], some x, c, rfl, h1, h2, nofun, fun ad had hne => ?_⟩
      injection had with had
      subst had
      have hn0 : 0 < n := by
        rcases Nat.eq_zero_or_pos n with h0 | h0
        · subst h0; exact absurd rfl hne
        · exact h0
      have hsp : x.spot = none := by
        have h0 := (hev ⟨0, hn0⟩).choose_spec.1 0 ((f (hev ⟨0, hn0⟩).choose)[0]'(by rw [hf]; exact hsz)) (by rw [List.getElem?_eq_getElem])
        simpa [Addr.add] using cell_spot h0
      refine ⟨hsp, fun k u hk => ?_⟩
      obtain ⟨bb, o, s⟩ := x
      simp only at hsp; subst hsp
      have hkl : k < n * sz := by have := (List.getElem?_eq_some_iff.1 hk).1; rw [flat_len hf, hl] at this; exact this
      have hkn : k / sz < n := Nat.div_lt_of_lt_mul (by rwa [Nat.mul_comm] at hkl)
      have hkk : k = k / sz * sz + k % sz := by rw [Nat.mul_comm]; exact (Nat.div_add_mod k sz).symm
      rw [hkk, flat_get hf (k := k / sz) (s := (hev ⟨k / sz, hkn⟩).choose) (k % sz) (by simp [hkn]) (Nat.mod_lt _ hsz)] at hk
      have := (hev ⟨k / sz, hkn⟩).choose_spec.1 (k % sz) u hk
      rw [Addr.add_lit, Addr.add_lit, Nat.add_assoc] at this
      dsimp only at this ⊢
      rwa [← hkk] at this
    · intro p hp
      obtain ⟨i, _, rfl⟩ := List.mem_map.1 hp
      exact (hev i).choose_spec.2
theorem wf_u8 {n : Int} (h : (Lit.int .u8 n).wf = true) : ∃ x : UInt8, n = (x.toNat : Int) := by
  simp only [Lit.wf, IntKind.min, IntKind.max, IntKind.bits, IntKind.signed, Bool.and_eq_true, decide_eq_true_eq] at h
  simp at h
  refine ⟨UInt8.ofNat n.toNat, ?_⟩
  have : n.toNat < 256 := by omega
  simp [UInt8.toNat_ofNat', Nat.mod_eq_of_lt this]
  omega
theorem flat_bv (l : List UInt8) : (l.flatMap fun b => [u8 b]) = bv l := by
  induction l with
  | nil => rfl
  | cons b l ih => simp only [List.flatMap_cons, ih]; rfl
/-- bytes -/
theorem bytes_open {w : World} {S d : Nat} {v : Value} (h : opz Tryd.prog TT S w (d + 2) 23 [v]) : ∃ l : List UInt8, Sl w v (bv l) ∧ l.length ≤ S := by
  obtain ⟨l, h1, _, h2⟩ := sl_open (α := UInt8) tl23 tl5 (by decide) (fun b => [u8 b]) (fun _ => rfl) (fun _ => True) (fun es _ h => by
    unfold opz at h
    simp only [tl5] at h
    obtain ⟨k, rfl, h⟩ := h
    obtain ⟨x, rfl⟩ := wf_u8 h
    exact ⟨x, rfl, trivial⟩) h
  rw [flat_bv] at h1
  rw [show Tryd.prog.bytesOf 5 = 1 from by kernel_rfl, Nat.mul_one] at h2
  exact ⟨l, h1.to1, h2⟩
theorem flat_fst : ∀ l : List (Value × List UInt8), (l.flatMap fun p => [p.1]) = l.map (·.1)
  | [] => rfl
  | b :: l => by simp only [List.flatMap_cons, flat_fst l]; rfl
/-- rows of bytes -/
theorem rows_open {w : World} {S d : Nat} {v : Value} (h : opz Tryd.prog TT S w (d + 3) 22 [v]) :
    ∃ xs : List (Value × List UInt8), Sl w v (xs.map (·.1)) ∧ ∀ p ∈ xs, Sl w p.1 (bv p.2) ∧ p.2.length ≤ S := by
  obtain ⟨l, h1, h2, _⟩ := sl_open (α := Value × List UInt8) tl22 tl23 (by decide) (fun p => [p.1]) (fun _ => rfl) (fun p => Sl w p.1 (bv p.2) ∧ p.2.length ≤ S) (fun es hl h => by
    obtain ⟨u, rfl⟩ := List.length_eq_one_iff.1 hl
    obtain ⟨l, hl⟩ := bytes_open (d := d) h
    exact ⟨(u, l), rfl, hl⟩) h
  rw [flat_fst] at h1
  exact ⟨l, h1.to1, h2⟩
/-- an argument, with its size -/
theorem arg_open {w : World} {H : Type} {enc : TypeId × Value → H} {t : TypeId} {v : Value} {d : DataW H} {ps : List MemPlace} {ts : List TypeId} {ds : List (DataW H)} (n j : Nat) (hsz : (DataW.weightsEach Tryd.prog ts ds).all (· ≤ reachBytes) = true) (ht : ts[j]? = some t) (hd : ds[j]? = some d)
    (h : DataW.Trod enc Tryd.prog w 0 (fun _ => true) true t v d ps) : opz Tryd.prog TT 140737488355328 w n t v.cells.toList := by
  obtain ⟨fuel, hf⟩ := h
  refine trod_opz ttOk n fuel _ _ _ hf fun m hm => ?_
  have := List.all_eq_true.1 hsz _ (DataW.weights_mem_each ht hd m hm)
  simp only [decide_eq_true_eq] at this
  have := reachBytes_lt
  omega
end Go.Proofs.YtjafamiaahabgaaDoor
