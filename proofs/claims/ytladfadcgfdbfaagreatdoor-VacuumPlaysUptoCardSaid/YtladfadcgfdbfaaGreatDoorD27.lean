/- The part of XUk that is for any seat. vacuum: part, copies. Nothing is claimed here. -/
import Derived.Test.YtladfadcgfdbfaaGreatDoorD25
import Derived.Test.YtladfadcgfdbfaaGreatDoorD18
import Derived.Test.YtladfadcgfdbfaaGreatDoorD26
namespace Go.Proofs.YtladfadcgfdbfaaGreatDoor
open Go.RowKit
open Go.Maps (Keyed)
set_option linter.unusedVariables false
set_option linter.unusedSimpArgs false
set_option maxRecDepth 100000
theorem crash_oneS (nm : ByteArray) (d : List UInt8) (draw : Int) : crashS (oneS nm d) draw = oneS nm d := by
  rw [oneS, crash_one, crash1]
  have h : stays draw 0 ⟨nm, d, d.length⟩ = d.length := by
    have := stays_le (draw := draw) (i := 0) (f := ⟨nm, d, d.length⟩) (Nat.le_refl _)
    dsimp only at this
    omega
  rw [h]
  simp
end Go.Proofs.YtladfadcgfdbfaaGreatDoor
namespace Go.Proofs.YtladfadcgfdbfaaGreatDoor
open Go.RowKit
set_option linter.unusedVariables false
set_option linter.unusedSimpArgs false
set_option maxRecDepth 100000
/-- a job -/
def jC (d id : Nat) (nm sh : ByteArray) (lv : Value) (bg : Nat) (nf : Value) (ov : Bool) : List Value := [ptr d, .int .i64 (id : Int), .string nm, .string sh, lv, .int .i64 (bg : Int), nf, .bool ov]
theorem OkF.of_get {B : Nat} {w0 w : World} {b room : Nat} {S : List Fl} {F : List Res} {nm : ByteArray} {f : Fl} (h : DkS B w0 w b room S F) (hg : getS S nm = some f) : f.d.length ≤ 1073741824 := by
  have := szS_le h nm
  rwa [szS, hg] at this
theorem own_addr {w : World} {base sz n c m : Nat} {e : TypeId} {a : Option Addr} {xs : List Value} (h : w.ownsRow base e sz (.slice a n c) m xs) (hn : 0 < m) : (∃ g, a = some ⟨g, 0, none⟩) ∧ n ≤ c := by
  rcases h.2 with h | ⟨g, cap, cur, h, _, _, h1, _⟩
  · have := h.2; omega
  · injection h with e1 e2 e3
    subst e2; subst e3
    exact ⟨⟨g, e1⟩, h1⟩
section
variable {B d j room id bg : Nat} {nm sh : ByteArray} {S : List Fl} {F : List Res} {w0 w : World}
set_option maxHeartbeats 4000000 in
theorem jpart_fn (hnm : nm.size ≤ 1000000) (lv nf : Value) (ov : Bool) (D : List UInt8) (la at_ n : Nat) (hg : getS S nm = some ⟨nm, D, la⟩) (hat : at_ + n ≤ D.length) (hn : 0 < n)
    (hD : DkS B w0 w d room S (.blk j (jC d id nm sh lv bg nf ov) 76 :: F)) :
    Fn Tryz.prog 78 #[ptr j, .int .i64 (at_ : Int), .int .i64 (n : Int)] w fun r w' => ∃ u, DkS B w0 w' d room S (.row 5 1 u D.length (bv D) :: .blk j (jC d id nm sh lv bg nf ov) 76 :: F) ∧
      ∀ x, (Res.row 5 1 u D.length (bv D)).holds Tryz.prog x → Sl x r (bv (Go.Proofs.YtladfadcgfdbfaaGreatDoor.win D at_ n)) := by
  have hle : D.length ≤ 1073741824 := OkF.of_get hD hg
  obtain ⟨dL, hL, hB, close⟩ := hD.open
  clear hD
  rw [jC] at *
  refine Fn.mk Tryz.func78 rfl (by kernel_rfl) Tryz.ntmps78 rfl (by rw [Tryz.results78]) ?_
  repeat (first | (refine RunK ?_; intro w hL hB; try clear w) | (refine V.tree ttOk (fun x0 => Sep Tryz.prog _ w0 x0 [.blk j [ptr d, .int .i64 (id : Int), .string nm, .string sh, lv, .int .i64 (bg : Int), nf, .bool ov] 76]) (.q 0 (.q 1 (.q 2 (.q 3 (.q 4 (.q 5 (.q 6 (.q 7 (.alt 8 (.q 9 (.q 10 (.q 11 (.q 12 (.q 13 .nil))))) .stop))))))))) mixed (by decide +kernel) (hL.drew.one (i := 0) rfl) ?_; replace hL := hL.drew; conv => whnf) | (refine V.tailA ttOk mixed (by decide +kernel) ?_; replace hL := hL.drew; conv => whnf) | (refine Both.mk ?_ ?_ <;> conv => whnf) | fail)
  refine (read_fn nm hnm (close (F' := _ :: F) hL hB)).mono fun r w hD => ?_
  clear hL hB
  rw [hg] at hD
  obtain ⟨u, hr, hD⟩ := hD
  subst hr
  obtain ⟨dL', hL, hB, close'⟩ := hD.open
  obtain ⟨ua, uc, rfl⟩ := (show SlN w 1 u D.length (bv D) from hL.rowN (i := 0) rfl).shape
  dsimp only at hL
  conv => whnf
  refine And.intro (hL.one (i := 1) rfl) ?_
  conv => whnf
  repeat (first | (refine RunH ?_; intro w hL hB; try clear w) | (refine Both.mk ?_ ?_ <;> conv => whnf) | fail)
  obtain ⟨ub, uo, rfl, _⟩ := (show SlN w 1 _ D.length (bv D) from hL.rowN (i := 0) rfl).addr (by omega)
  have huc : D.length ≤ uc := (show SlN w 1 _ D.length (bv D) from hL.rowN (i := 0) rfl).to1.len.2.1
  rw [show min (at_ : Int) (D.length : Int) = at_ from by omega, show min (D.length : Int) ((at_ : Int) + n) = ((at_ + n : Nat) : Int) from by omega]
  refine Chk.mk (by push_cast; omega) ?_
  conv => whnf
  intro o5 n5 c5 g1 g2 g3 g4
  conv => whnf
  repeat (first | (refine RunH ?_; intro w hL hB; try clear w) | (refine Both.mk ?_ ?_ <;> conv => whnf) | fail)
  refine ⟨_, close' (F' := _ :: _ :: F) hL hB, fun x hx => ?_⟩
  have hs : Sl x (.slice (some ⟨ub, uo, none⟩) D.length uc) (bv D) := Sl.of_own (show x.ownsRow 0 5 1 _ _ _ from hx)
  have := (hs.drop (k := at_) (o' := o5) (n' := D.length - at_) (c' := uc - at_) (by rw [bv_length]; omega) (by omega) (by omega) (by omega)).take (k := n5) (c' := c5) (by simp; omega) (by omega) (by omega)
  rw [Go.Proofs.YtladfadcgfdbfaaGreatDoor.win, bv_take, bv_drop]
  rw [show n = n5 by omega]
  exact this
/-- what of a row of places is left behind k of them -/
def LeftIs (rv : Value) (n k : Nat) (lv : Value) : Prop := ∃ a c a', rv = .slice a n c ∧ lv = .slice a' (n - k) (c - k) ∧ (k < n → ∃ g, a = some ⟨g, 0, none⟩ ∧ a' = some ⟨g, 5 * k, none⟩)
set_option maxHeartbeats 8000000 in
/-- the next record is copied -/
theorem copies_fn (hnm : nm.size ≤ 1000000) (hsh : sh.size ≤ 1000000) (nf : Value) (ov : Bool) (D : List UInt8) (la : Nat) (rv lv : Value) (k : Nat) (ls : List Pc) (p : Pc) (hlv : LeftIs rv ls.length k lv) (hp : ls[k]? = some p) (hg : getS S nm = some ⟨nm, D, la⟩) (hat : p.at_ + p.n ≤ D.length) (hn : 0 < p.n)
    (hD : DkS B w0 w d room S (.blk j (jC d id nm sh lv bg nf ov) 76 :: .row 87 5 rv ls.length (ls.flatMap pcC) :: F)) :
    Fn Tryz.prog 40 #[ptr j] w fun r w' => r = .int .i64 (appE room S sh p.n : Nat) ∧ ∃ lv', (appE room S sh p.n = 0 → LeftIs rv ls.length (k + 1) lv') ∧ (appE room S sh p.n ≠ 0 → lv' = lv) ∧
      DkS B w0 w' d room (appS room S sh (Go.Proofs.YtladfadcgfdbfaaGreatDoor.win D p.at_ p.n)) (.blk j (jC d id nm sh lv' bg nf ov) 76 :: .row 87 5 rv ls.length (ls.flatMap pcC) :: F) := by
  have hkl := (List.getElem?_eq_some_iff.1 hp).1
  have hwl : (Go.Proofs.YtladfadcgfdbfaaGreatDoor.win D p.at_ p.n).length = p.n := win_len hat
  have happ : appS room S sh (Go.Proofs.YtladfadcgfdbfaaGreatDoor.win D p.at_ p.n) = if appE room S sh p.n = 0 then putS S (appF S sh (Go.Proofs.YtladfadcgfdbfaaGreatDoor.win D p.at_ p.n)) else S := by rw [appS, hwl]
  obtain ⟨dL, hL, hB, close⟩ := hD.open
  clear hD
  obtain ⟨ra, cap, la9, rfl, rfl, hla⟩ := hlv
  obtain ⟨g, rfl, rfl⟩ := hla hkl
  have hcap : ls.length ≤ cap := (own_addr (show w.ownsRow 0 87 5 _ _ _ from hL.at (i := 1) rfl) (by omega)).2
  simp only [jC] at hL ⊢
  refine Fn.mk Tryz.func40 rfl (by kernel_rfl) Tryz.ntmps40 rfl (by rw [Tryz.results40]) ?_
  repeat (first | (refine RunH ?_; intro w hL hB; try clear w) | (refine Both.mk ?_ ?_ <;> conv => whnf) | fail)
  intro o9 ho9
  conv => whnf
  refine Ld.rowN ttOk pcC_len (hL.rowN (i := 1) rfl).rowOf rfl rfl rfl hp (by omega) ?_
  rw [pcC]
  conv => whnf
  (refine Nw.sep hL hB (fun pb w hL hB hpb => ?_); conv => whnf)
  repeat (first | (refine RunK ?_; intro w hL hB; try clear w) | (refine V.tree ttOk (fun x0 => Sep Tryz.prog _ w0 x0 (.blk pb [.int .u64 (p.key : Int), .int .i64 (p.at_ : Int), .int .i64 (p.n : Int), .int .u32 (p.cook : Int), .bool p.dead] 87 :: .blk j [ptr d, .int .i64 (id : Int), .string nm, .string sh, .slice (some ⟨g, 5 * k, none⟩) (ls.length - k) (cap - k), .int .i64 (bg : Int), nf, .bool ov] 76 :: [])) (.q 0 (.q 1 (.q 2 (.q 3 (.q 4 (.q 5 (.q 6 (.q 7 (.q 8 (.q 9 (.q 10 (.q 11 (.q 12 (.alt 13 (.alt 14 (.q 15 .nil) .stop) .stop)))))))))))))) mixed (by decide +kernel) (hL.drew.sub (.cons_cons _ (.cons_cons _ (List.nil_sublist _)))) ?_; replace hL := hL.drew; conv => whnf) | (refine V.tailA ttOk mixed (by decide +kernel) ?_; replace hL := hL.drew; conv => whnf) | (refine Both.mk ?_ ?_ <;> conv => whnf) | fail)
  have hD0 := close (F' := _ :: _ :: _ :: F) hL hB
  refine (jpart_fn hnm (.slice (some ⟨g, 5 * k, none⟩) (ls.length - k) (cap - k)) nf ov D la p.at_ p.n hg hat hn (hD0.perm (.swap _ _ _))).mono fun r w ⟨u, hD, hr⟩ => ?_
  clear hD0 hL hB close
  obtain ⟨dL', hL, hB, close'⟩ := hD.open
  rw [jC] at hL
  conv => whnf
  refine And.intro (hL.sub (L' := [_, _]) ?_ |>.perm (.swap _ _ _)) ?_
  · exact .cons _ (.cons_cons _ (.cons_cons _ (List.nil_sublist _)))
  conv => whnf
  repeat (first | (refine RunH ?_; intro w hL hB; try clear w) | (refine Both.mk ?_ ?_ <;> conv => whnf) | fail)
  have hmem : ∀ {x : World} {L : List Res}, Sep Tryz.prog B w0 x (.row 5 1 u D.length (bv D) :: L) → Sl x r (bv (Go.Proofs.YtladfadcgfdbfaaGreatDoor.win D p.at_ p.n)) := fun h => hr _ (h.at (i := 0) rfl)
  refine (append_fn sh hsh r (Go.Proofs.YtladfadcgfdbfaaGreatDoor.win D p.at_ p.n) (fun x hx => hmem hx) (close' (F' := _ :: _ :: _ :: _ :: F) hL hB)).mono fun e w ⟨he, hD⟩ => ?_
  clear hL hB close'
  subst he
  rw [hwl]
  rw [happ] at hD
  generalize hE : appE room S sh p.n = E at *
  obtain ⟨dL, hL, hB, close⟩ := hD.open
  clear hD
  rw [happ]
  conv => whnf
  refine And.intro (hL.sub (L' := [_, _]) ?_ |>.perm (.swap _ _ _)) ?_
  · exact .cons _ (.cons_cons _ (.cons_cons _ (List.nil_sublist _)))
  conv => whnf
  by_cases hE0 : E = 0
  case neg =>
    repeat (first | (refine RunH ?_; intro w hL hB; try clear w) | (refine Both.mk ?_ ?_ <;> conv => whnf) | fail)
    exact ⟨rfl, _, fun h => absurd h hE0, fun _ => rfl, close (F' := _ :: _ :: F) (hL.sub (.cons _ (.cons_cons _ (.cons _ (.refl _))))) hB⟩
  subst hE0
  repeat (first | (refine RunH ?_; intro w hL hB; try clear w) | (refine Both.mk ?_ ?_ <;> conv => whnf) | fail)
  intro o5 n5 c5 g1 g2 g3 g4
  conv => whnf
  repeat (first | (refine RunH ?_; intro w hL hB; try clear w) | (refine Both.mk ?_ ?_ <;> conv => whnf) | fail)
  have e5 : n5 = ls.length - (k + 1) := by omega
  have e6 : c5 = cap - (k + 1) := by omega
  refine ⟨rfl, .slice (some ⟨g, o5, none⟩) n5 c5, fun _ => ⟨some ⟨g, 0, none⟩, cap, some ⟨g, o5, none⟩, rfl, by rw [e5, e6], fun hk => ⟨g, rfl, ?_⟩⟩, fun h => absurd rfl h, close (F' := _ :: _ :: F) (hL.sub (.cons _ (.cons_cons _ (.cons _ (.refl _))))) hB⟩
  rw [show o5 = 5 * (k + 1) by omega]
end
end Go.Proofs.YtladfadcgfdbfaaGreatDoor
