/- vacuum: Step. vacuum: late. Nothing is claimed here. -/
import Derived.Test.YtladfadcgfdbfaaGreatDoorD27
namespace Go.Proofs.YtladfadcgfdbfaaGreatDoor
open Go.RowKit
set_option linter.unusedVariables false
set_option linter.unusedSimpArgs false
set_option maxRecDepth 100000
/-- places are copied: the disk, how many went, the error -/
def stepS (room : Nat) (sh : ByteArray) (D : List UInt8) : List Pc → Nat → List Fl → List Fl × Nat × Nat
  | [], _, S => (S, 0, 0)
  | _ :: _, 0, S => (S, 0, 0)
  | p :: ps, n + 1, S => if appE room S sh p.n = 0 then ((stepS room sh D ps n (appS room S sh (Go.Proofs.YtladfadcgfdbfaaGreatDoor.win D p.at_ p.n))).1, (stepS room sh D ps n (appS room S sh (Go.Proofs.YtladfadcgfdbfaaGreatDoor.win D p.at_ p.n))).2.1 + 1, (stepS room sh D ps n (appS room S sh (Go.Proofs.YtladfadcgfdbfaaGreatDoor.win D p.at_ p.n))).2.2) else (S, 0, appE room S sh p.n)
theorem stepS_zero (room : Nat) (sh : ByteArray) (D : List UInt8) (ps : List Pc) (S : List Fl) : stepS room sh D ps 0 S = (S, 0, 0) := by cases ps <;> rfl
theorem stepS_nil (room : Nat) (sh : ByteArray) (D : List UInt8) (n : Nat) (S : List Fl) : stepS room sh D [] n S = (S, 0, 0) := by cases n <;> rfl
theorem get_put_ne : ∀ {S : List Fl} {f : Fl} {nm : ByteArray}, nm ≠ f.nm → getS (putS S f) nm = getS S nm
  | [], f, nm, h => by simp [putS, getS, Ne.symm h]
  | g :: S, f, nm, h => by
    unfold putS
    split
    · rename_i hg
      simp only [getS, if_neg (Ne.symm h), hg]
    · simp only [getS, get_put_ne h]
theorem appF_nm (S : List Fl) (nm : ByteArray) (xs : List UInt8) : (appF S nm xs).nm = nm := by
  unfold appF; split <;> rfl
theorem get_app_ne {room : Nat} {S : List Fl} {nm sh : ByteArray} {xs : List UInt8} (h : nm ≠ sh) : getS (appS room S sh xs) nm = getS S nm := by
  unfold appS
  split
  · exact get_put_ne (by rw [appF_nm]; exact h)
  · rfl
def funcJ (j : Nat) : Value := .func (.func 40) #[ptr j] #[]
theorem tupB {p q : Prop} [Decidable p] [Decidable q] {x y : Value} (h : p ↔ q) (hx : x = y) : Value.tuple #[.bool (decide p), x] = .tuple #[.bool (decide q), y] := by rw [decide_eq_decide.2 h, hx]
section
variable {B d j room id bg : Nat} {nm sh : ByteArray} {S : List Fl} {F : List Res} {w0 w : World}
set_option maxHeartbeats 8000000 in
theorem step_fn (hnm : nm.size ≤ 1000000) (hsh : sh.size ≤ 1000000) (hne : nm ≠ sh) (D : List UInt8) (la : Nat) (rv lv : Value) (k : Nat) (N : Int) (hN : N ≤ 9223372036854775807) (ls : List Pc) (hk : k ≤ ls.length) (hlv : LeftIs rv ls.length k lv) (hg : getS S nm = some ⟨nm, D, la⟩) (hls : ∀ p ∈ ls, p.at_ + p.n ≤ D.length ∧ 0 < p.n)
    (hD : DkS B w0 w d room S (.blk j (jC d id nm sh lv bg (funcJ j) false) 76 :: .row 87 5 rv ls.length (ls.flatMap pcC) :: F)) :
    Fn Tryz.prog 7 #[ptr j, .int .i64 N] w fun r w' => ∃ lv', let z := stepS room sh D (ls.drop k) N.toNat S
      r = .tuple #[.bool (decide (z.2.2 = 0 ∧ k + z.2.1 = ls.length)), .int .i64 (z.2.2 : Nat)] ∧ k + z.2.1 ≤ ls.length ∧ LeftIs rv ls.length (k + z.2.1) lv' ∧
      DkS B w0 w' d room z.1 (.blk j (jC d id nm sh lv' bg (funcJ j) false) 76 :: .row 87 5 rv ls.length (ls.flatMap pcC) :: F) := by
  obtain ⟨dL, hL, hB, close⟩ := hD.open
  clear hD
  have hrl : ls.length ≤ 9223372036854775807 := (show SlN w 5 rv ls.length _ from hL.rowN (i := 1) rfl).le
  simp only [jC, funcJ] at hL ⊢
  refine Fn.mk Tryz.func7 rfl (by kernel_rfl) Tryz.ntmps7 rfl (by rw [Tryz.results7]) ?_
  repeat (first | (refine RunH ?_; intro w hL hB; try clear w) | (refine Both.mk ?_ ?_ <;> conv => whnf) | fail)
  refine V.loop (α := Nat) (fun c => [(0, ptr j), (1, .int .i64 (N - (c : Int)))])
    (fun c w' => c ≤ N.toNat ∧ k + c ≤ ls.length ∧ ∃ Sc lv, LeftIs rv ls.length (k + c) lv ∧ getS Sc nm = some ⟨nm, D, la⟩ ∧
      stepS room sh D (ls.drop k) N.toNat S = ((stepS room sh D (ls.drop (k + c)) (N.toNat - c) Sc).1, (stepS room sh D (ls.drop (k + c)) (N.toNat - c) Sc).2.1 + c, (stepS room sh D (ls.drop (k + c)) (N.toNat - c) Sc).2.2) ∧
      DkS B w0 w' d room Sc (.blk j (jC d id nm sh lv bg (funcJ j) false) 76 :: .row 87 5 rv ls.length (ls.flatMap pcC) :: F)) (fun c => N.toNat - c) 0 ⟨rfl, vint (by simp), trivial⟩ ⟨Nat.zero_le _, by omega, S, lv, hlv, hg, by simp, close (F' := _ :: _ :: F) hL hB⟩ ?_
  repeat clear hL
  repeat clear hB
  clear hlv hg close
  rintro c w ⟨hc, hkc, Sc, lv, hlv, hg, hz, hD⟩
  obtain ⟨dL, hL, hB, close⟩ := hD.open
  have hlv0 := hlv
  obtain ⟨ra, cap, la9, rfl, rfl, hla⟩ := hlv
  by_cases hcN : (c : Int) < N
  case neg =>
    obtain rfl : c = N.toNat := by omega
    rw [Nat.sub_self, stepS_zero] at hz
    simp only [jC, funcJ] at hL
    repeat (first | (refine RunH ?_; intro w hL hB; try clear w) | (refine Both.mk ?_ ?_ <;> conv => whnf) | fail)
    rw [hz]
    dsimp only
    rw [Nat.zero_add]
    exact ⟨_, tupB (by omega) rfl, by omega, hlv0, hD⟩
  by_cases hkl : k + c < ls.length
  case neg =>
    obtain rfl : c = ls.length - k := by omega
    simp only [jC, funcJ] at hL
    repeat (first | (refine RunH ?_; intro w hL hB; try clear w) | (refine Both.mk ?_ ?_ <;> conv => whnf) | fail)
    rw [List.drop_eq_nil_of_le (show ls.length ≤ k + (ls.length - k) by omega), stepS_nil] at hz
    rw [hz]
    dsimp only
    rw [Nat.zero_add]
    exact ⟨_, tupB (by omega) rfl, by omega, hlv0, hD⟩
  have hget := List.getElem?_eq_getElem hkl
  have hpp := hls _ (List.getElem_mem hkl)
  have hdr : ls.drop (k + c) = ls[k + c] :: ls.drop (k + (c + 1)) := List.drop_eq_getElem_cons hkl
  generalize ls[k + c] = p at *
  rw [hdr, show N.toNat - c = (N.toNat - (c + 1)) + 1 by omega, stepS] at hz
  simp only [jC, funcJ] at hL
  repeat (first | (refine RunH ?_; intro w hL hB; try clear w) | (refine Both.mk ?_ ?_ <;> conv => whnf) | fail)
  clear hL hB close
  refine (copies_fn hnm hsh (funcJ j) false D la _ _ (k + c) ls p hlv0 hget hg hpp.1 hpp.2 hD).mono fun r w ⟨hr, lv', hlv1, hlv2, hD⟩ => ?_
  subst hr
  obtain ⟨dL, hL, hB, close⟩ := hD.open
  by_cases hE : appE room Sc sh p.n = 0
  case neg =>
    rw [if_neg hE] at hz
    have hS : appS room Sc sh (Go.Proofs.YtladfadcgfdbfaaGreatDoor.win D p.at_ p.n) = Sc := by rw [appS, win_len hpp.1, if_neg hE]
    rw [hS] at hD
    obtain rfl := hlv2 hE
    simp only [jC, funcJ] at hL
    generalize appE room Sc sh p.n = E at *
    conv => whnf
    repeat (first | (refine RunH ?_; intro w hL hB; try clear w) | (refine Both.mk ?_ ?_ <;> conv => whnf) | fail)
    rw [hz]
    dsimp only
    rw [Nat.zero_add]
    exact ⟨_, tupB (p := False) (by simp [hE]) rfl, by omega, hlv0, hD⟩
  rw [if_pos hE] at hz
  rw [hE]
  simp only [jC, funcJ] at hL
  conv => whnf
  repeat (first | (refine RunH ?_; intro w hL hB; try clear w) | (refine Both.mk ?_ ?_ <;> conv => whnf) | fail)
  refine ⟨c + 1, ⟨rfl, vint (by push_cast; omega), trivial⟩, ⟨by omega, by omega, _, lv', hlv1 hE, by rw [get_app_ne hne]; exact hg, ?_, hD⟩, (by first | omega | (dsimp only; omega))⟩
  rw [hz]
  dsimp only
  rw [show ∀ a : Nat, a + 1 + c = a + (c + 1) from fun a => by omega]
end
end Go.Proofs.YtladfadcgfdbfaaGreatDoor
namespace Go.Proofs.YtladfadcgfdbfaaGreatDoor
open Go.RowKit
set_option linter.unusedVariables false
set_option linter.unusedSimpArgs false
set_option maxRecDepth 100000
/-- records are laid one behind the other: the disk, the error -/
def lateS (room : Nat) (sh : ByteArray) : List Nd → List Fl → List Fl × Nat
  | [], S => (S, 0)
  | r :: rs, S => if appE room S sh (szR r) = 0 then lateS room sh rs (appS room S sh (encR r)) else (S, appE room S sh (szR r))
section
variable {B d j room id bg : Nat} {nm sh : ByteArray} {S : List Fl} {F : List Res} {w0 w : World}
set_option maxHeartbeats 8000000 in
theorem late_fn (hnm : nm.size ≤ 1000000) (hsh : sh.size ≤ 1000000) (hne : nm ≠ sh) (H : List UInt8) (A New : List Nd) (hok : ∀ r ∈ New, OkRec r) (la : Nat) (lv nf : Value) (ov : Bool) (hbg : bg = H.length + lenR A) (hg : getS S nm = some ⟨nm, H ++ flat (A ++ New), la⟩)
    (hD : DkS B w0 w d room S (.blk j (jC d id nm sh lv bg nf ov) 76 :: F)) :
    Fn Tryz.prog 27 #[ptr j] w fun r w' => r = .int .i64 ((lateS room sh New S).2 : Nat) ∧ DkS B w0 w' d room (lateS room sh New S).1 (.blk j (jC d id nm sh lv bg nf ov) 76 :: F) := by
  have hle : (H ++ flat (A ++ New)).length ≤ 1073741824 := OkF.of_get hD hg
  have hDl : (H ++ flat (A ++ New)).length = H.length + lenR A + lenR New := by rw [List.length_append, flatR_len, lenR_app]; omega
  generalize hDD : H ++ flat (A ++ New) = D at *
  obtain ⟨dL, hL, hB, close⟩ := hD.open
  clear hD
  simp only [jC] at hL ⊢
  refine Fn.mk Tryz.func27 rfl (by kernel_rfl) Tryz.ntmps27 rfl (by rw [Tryz.results27]) ?_
  repeat (first | (refine RunK ?_; intro w hL hB; try clear w) | (refine V.tree ttOk (fun x0 => Sep Tryz.prog _ w0 x0 [.blk j [ptr d, .int .i64 (id : Int), .string nm, .string sh, lv, .int .i64 (bg : Int), nf, .bool ov] 76]) (.q 0 (.q 1 (.q 2 (.q 3 (.q 4 (.q 5 (.q 6 (.q 7 (.alt 8 (.q 9 (.q 10 (.q 11 (.q 12 (.q 13 .nil))))) .stop))))))))) mixed (by decide +kernel) (hL.drew.one (i := 0) rfl) ?_; replace hL := hL.drew; conv => whnf) | (refine V.tailA ttOk mixed (by decide +kernel) ?_; replace hL := hL.drew; conv => whnf) | (refine Both.mk ?_ ?_ <;> conv => whnf) | fail)
  refine (read_fn nm hnm (close (F' := _ :: F) hL hB)).mono fun r w hD => ?_
  clear hL hB close
  rw [hg] at hD
  obtain ⟨u, hr, hD⟩ := hD
  subst hr
  obtain ⟨dL', hL, hB, close⟩ := hD.open
  obtain ⟨ua, uc, rfl⟩ := (show SlN w 1 u D.length (bv D) from hL.rowN (i := 0) rfl).shape
  dsimp only at hL
  conv => whnf
  refine And.intro (hL.one (i := 1) rfl) ?_
  conv => whnf
  repeat (first | (refine RunH ?_; intro w hL hB; try clear w) | (refine Both.mk ?_ ?_ <;> conv => whnf) | fail)
  rw [show min (bg : Int) (D.length : Int) = bg from by omega]
  refine V.loop (α := Nat) (fun m => [(0, ptr j), (3, .slice ua D.length uc), (5, .int .i64 ((bg + lenR (New.take m) : Nat) : Int))])
    (fun m w' => m ≤ New.length ∧ ∃ Sm, lateS room sh New S = lateS room sh (New.drop m) Sm ∧ getS Sm nm = some ⟨nm, D, la⟩ ∧
      DkS B w0 w' d room Sm (.row 5 1 (.slice ua D.length uc) D.length (bv D) :: .blk j [ptr d, .int .i64 (id : Int), .string nm, .string sh, lv, .int .i64 (bg : Int), nf, .bool ov] 76 :: F)) (fun m => New.length - m) 0 ⟨rfl, rfl, vint (by simp [lenR]), trivial⟩ ⟨Nat.zero_le _, S, rfl, hg, hD⟩ ?_
  repeat clear hL
  repeat clear hB
  clear hD hg close
  rintro m w ⟨hm, Sm, hz, hg, hD⟩
  obtain ⟨dL, hL, hB, close⟩ := hD.open
  have htot : lenR New = lenR (New.take m) + lenR (New.drop m) := by rw [← lenR_app, List.take_append_drop]
  by_cases hml : m < New.length
  case neg =>
    obtain rfl : m = New.length := by omega
    rw [List.drop_length] at htot hz
    have h0 : lenR ([] : List Nd) = 0 := rfl
    rw [hz]
    repeat (first | (refine RunH ?_; intro w hL hB; try clear w) | (refine Both.mk ?_ ?_ <;> conv => whnf) | fail)
    exact ⟨rfl, close (F' := _ :: F) hL.tl hB⟩
  have hdr : New.drop m = New[m] :: New.drop (m + 1) := List.drop_eq_getElem_cons hml
  have hro := hok _ (List.getElem_mem hml)
  have htk : lenR (New.take (m + 1)) = lenR (New.take m) + szR New[m] := by rw [List.take_add_one, List.getElem?_eq_getElem hml, lenR_app]; simp [lenR]
  generalize New[m] = q at *
  rw [hdr] at hz htot
  have htot : lenR New = lenR (New.take m) + (szR q + lenR (New.drop (m + 1))) := by rw [htot]; simp [lenR]
  have hsz := szR_le q
  obtain ⟨ub, uo, rfl, _⟩ := (show SlN w 1 _ D.length (bv D) from hL.rowN (i := 0) rfl).addr (by omega)
  have huc : D.length ≤ uc := (show SlN w 1 _ D.length (bv D) from hL.rowN (i := 0) rfl).to1.len.2.1
  have hat : bg + lenR (New.take m) = (H ++ flat (A ++ New.take m)).length := by rw [List.length_append, flatR_len, lenR_app]; omega
  have hDs : D = (H ++ flat (A ++ New.take m)) ++ (encN q.key q.cook q.dead q.xs ++ flat (New.drop (m + 1))) := by
    have h1 : flat (q :: New.drop (m + 1)) = encN q.key q.cook q.dead q.xs ++ flat (New.drop (m + 1)) := rfl
    rw [← hDD, ← h1, ← hdr, List.append_assoc, ← flat_app, List.append_assoc A, List.take_append_drop]
  have hdp : D.drop (bg + lenR (New.take m)) = encN q.key q.cook q.dead q.xs ++ flat (New.drop (m + 1)) := by rw [hat, hDs, List.drop_left]
  have hwin : Go.Proofs.YtladfadcgfdbfaaGreatDoor.win D (bg + lenR (New.take m)) (szR q) = encR q := by
    rw [win, hdp, List.take_append_of_le_length (by rw [← encR_len q]; exact Nat.le_refl _), List.take_of_length_le (by rw [← encR_len q]; exact Nat.le_refl _)]; rfl
  have hE0 : dE (D.drop (bg + lenR (New.take m))) = 0 := by rw [hdp]; exact enc_E hro.key hro.cook (encNE_zero.1 hro.enc).1 (encNE_zero.1 hro.enc).2
  have hSz : dSize (D.drop (bg + lenR (New.take m))) = q.xs.length := by rw [hdp]; exact enc_size (encNE_zero.1 hro.enc).1
  have hszq : szN q.xs.length = szR q := rfl
  have hlt : bg + lenR (New.take m) + szR q ≤ D.length := by omega
  clear hdp hDs hat hdr hDD
  generalize hx : bg + lenR (New.take m) = x at *
  repeat (first | (refine RunH ?_; intro w hL hB; try clear w) | (refine Both.mk ?_ ?_ <;> conv => whnf) | fail)
  intro o1 n1 c1 z1 z2 z3 z4
  conv => whnf
  repeat (first | (refine RunH ?_; intro w hL hB; try clear w) | (refine Both.mk ?_ ?_ <;> conv => whnf) | fail)
  have hsl := hL.row (i := 0) rfl
  refine (decNeedle_fn _ (D.drop x) _ (by rw [bv_drop]; exact hsl.drop (k := x) (by rw [bv_length]; omega) (by omega) (by omega) (by omega))).mono fun r w ⟨hr, hw⟩ => ?_
  rcases hr with ⟨hE2, rfl⟩ | ⟨hE2, rfl⟩ | ⟨hE2, u9, rfl, ho⟩
  · omega
  · omega
  replace hL := hL.addRow hB hw ho
  replace hB := Nat.le_trans hB hw.size
  obtain ⟨xa, xc, rfl⟩ := (show SlN w 1 u9 _ _ from hL.rowN (i := 0) rfl).shape
  rw [hSz, hszq]
  conv => whnf
  (refine Nw.sep hL hB (fun t6 w hL hB ht6 => ?_); conv => whnf)
  repeat (first | (refine RunK ?_; intro w hL hB; try clear w) | (refine V.tree ttOk (fun x0 => Sep Tryz.prog _ w0 x0 [.blk j [ptr d, .int .i64 (id : Int), .string nm, .string sh, lv, .int .i64 (bg : Int), nf, .bool ov] 76]) (.q 0 (.q 1 (.q 2 (.q 3 (.q 4 (.q 5 (.q 6 (.q 7 (.q 8 (.q 9 (.q 10 (.q 11 (.q 12 (.q 13 (.alt 14 (.q 15 .nil) .stop))))))))))))))) mixed (by decide +kernel) (hL.drew.one (i := 3) rfl) ?_; replace hL := hL.drew; conv => whnf) | (refine V.tailA ttOk mixed (by decide +kernel) ?_; replace hL := hL.drew; conv => whnf) | (refine Both.mk ?_ ?_ <;> conv => whnf) | fail)
  intro o2 n2 c2 y1 y2 y3 y4
  have hn2 : n2 = szR q := by omega
  have hpn : ∀ {y : World} {L : List Res}, Sep Tryz.prog B w0 y L → .row 5 1 (.slice (some ⟨ub, uo, none⟩) D.length uc) D.length (bv D) ∈ L → Sl y (.slice (some ⟨ub, o2, none⟩) n2 c2) (bv (encR q)) := fun {y L} h hm => by
    have hs : Sl y (.slice (some ⟨ub, uo, none⟩) D.length uc) (bv D) := Sl.of_own (show y.ownsRow 0 5 1 _ _ _ from h.hold _ hm)
    have := (hs.drop (k := x) (o' := o2) (n' := D.length - x) (c' := uc - x) (by rw [bv_length]; omega) (by omega) (by omega) (by omega)).take (k := n2) (c' := c2) (by simp; omega) (by omega) (by omega)
    rw [← hwin, Go.Proofs.YtladfadcgfdbfaaGreatDoor.win, bv_take, bv_drop, ← hn2]
    exact this
  conv => whnf
  repeat (first | (refine RunH ?_; intro w hL hB; try clear w) | (refine Both.mk ?_ ?_ <;> conv => whnf) | fail)
  replace hL := hL.tl.tl
  refine (append_fn sh hsh _ (encR q) (fun y hy => hpn hy (.head _)) (close (F' := _ :: _ :: F) hL hB)).mono fun e w ⟨he, hD⟩ => ?_
  clear hL hB close
  subst he
  rw [encR_len]
  rw [lateS] at hz
  obtain ⟨dL, hL, hB, close⟩ := hD.open
  conv => whnf
  refine And.intro (hL.one (i := 1) rfl) ?_
  by_cases hE : appE room Sm sh (szR q) = 0
  case neg =>
    have hS : appS room Sm sh (encR q) = Sm := by rw [appS, encR_len, if_neg hE]
    rw [if_neg hE] at hz
    rw [hS] at close
    rw [hz]
    generalize appE room Sm sh (szR q) = E at *
    conv => whnf
    repeat (first | (refine RunH ?_; intro w hL hB; try clear w) | (refine Both.mk ?_ ?_ <;> conv => whnf) | fail)
    exact ⟨rfl, close (F' := _ :: F) hL.tl hB⟩
  rw [if_pos hE] at hz
  rw [hE]
  conv => whnf
  repeat (first | (refine RunH ?_; intro w hL hB; try clear w) | (refine Both.mk ?_ ?_ <;> conv => whnf) | fail)
  exact ⟨m + 1, ⟨rfl, rfl, vint (by rw [htk]; push_cast; omega), trivial⟩, ⟨by omega, _, hz, by rw [get_app_ne hne]; exact hg, hD⟩, (by first | omega | (dsimp only; omega))⟩
end
end Go.Proofs.YtladfadcgfdbfaaGreatDoor
