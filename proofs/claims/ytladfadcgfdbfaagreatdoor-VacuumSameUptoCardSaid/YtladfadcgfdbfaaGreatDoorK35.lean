/- VacuumSame. How many elements a slice has whose reading is small. Nothing is claimed here. -/
import Derived.Test.YtladfadcgfdbfaaGreatDoorK32
import Derived.Test.YtladfadcgfdbfaaGreatDoorK22
import Derived.Test.YtladfadcgfdbfaaGreatDoorK03
import Derived.Test.YtladfadcgfdbfaaGreatDoorRows
namespace Go.Proofs.YtladfadcgfdbfaaGreatDoor
open Go.RowKit Go.Lib
set_option linter.unusedVariables false
set_option linter.unusedSimpArgs false
set_option maxRecDepth 100000
theorem inC_one {w : World} {ns : List InN} (h : ∀ n ∈ ns, OkN w n) : ∀ u ∈ ns.flatMap inC, u.oneCell' = true := fun u hu => by
  obtain ⟨n, hn, hq⟩ := List.mem_flatMap.1 hu
  obtain ⟨a, c, hv⟩ := (h n hn).sl.shape
  simp only [inC, ndC, hv, List.mem_cons, List.not_mem_nil, or_false] at hq
  rcases hq with rfl | rfl | rfl | rfl <;> rfl
theorem sumI_app (ah ws : List InN) (k : Nat) : sumI (ah ++ ws) (ah.length + k) = sumI ah ah.length + sumI ws k := by
  simp only [sumI, List.take_append, List.take_length, Nat.add_sub_cancel_left, List.map_append, List.sum_append]
  rw [List.take_of_length_le (by omega)]
def keyAt (al : List InN) (t : Nat) : Nat := ((al[t / 2]?).map InN.key).getD 0
def cookAt (al : List InN) (t : Nat) : Nat := (((al[t / 2]?).map InN.cook).getD 0 + t % 2) % 4294967296
def gotE (M : Nat → Option Nd) (al : List InN) (t : Nat) : Nat := wgetE M (keyAt al t) (cookAt al t)
def gotD (M : Nat → Option Nd) (key cook : Nat) : List UInt8 := if wgetE M key cook = 0 then wgetD M key else []
def gotDt (M : Nat → Option Nd) (al : List InN) (t : Nat) : List UInt8 := gotD M (keyAt al t) (cookAt al t)
def gvRes (g : Value × List UInt8) : Res := .row 5 1 g.1 g.2.length (bv g.2)
def eVals (M : Nat → Option Nd) (al : List InN) (n : Nat) : List Value := (List.range n).map fun t => .int .i64 (gotE M al t : Nat)
theorem eVals_len (M : Nat → Option Nd) (al : List InN) (n : Nat) : (eVals M al n).length = n := by simp [eVals]
theorem eVals_succ (M : Nat → Option Nd) (al : List InN) (n : Nat) : eVals M al (n + 1) = eVals M al n ++ [.int .i64 (gotE M al n : Nat)] := by simp [eVals, List.range_succ]
theorem eVals_one (M : Nat → Option Nd) (al : List InN) (n : Nat) : ∀ u ∈ eVals M al n, u.oneCell' = true := fun u hu => by
  obtain ⟨t, _, rfl⟩ := List.mem_map.1 hu; rfl
theorem eVals_get {M : Nat → Option Nd} {al : List InN} {n t : Nat} (h : t < n) : (eVals M al n)[t]? = some (.int .i64 (gotE M al t : Nat)) := by simp [eVals, h]
section
variable {B d v m room id la : Nat} {nm : ByteArray} {T : List Fl} {F : List Res} {w0 w : World}
/-- what a Get says of a file of whole records -/
theorem vgetU_fn {Rs : List Nd} (hn : NameIn B w0 id nm) (key cook : Nat) (hk : key < 18446744073709551616) (hok : ∀ r ∈ Rs, OkRec r) (hsm : 8 + lenR Rs ≤ 1073741824)
    (hD : DkS B w0 w d room (volS nm (vhd id ++ flat Rs) T) (.blk v (volC d id nm m) 100 :: .mp 38 m ((foldP 8 [] Rs).map pcE) :: F)) :
    Fn Tryz.prog 24 #[ptr v, .int .u64 (key : Int), .int .u32 (cook : Int)] w fun r w' => ∃ u, r = .tuple #[u, .int .i64 (wgetE (winM m0 Rs) key cook : Nat)] ∧
      DkS B w0 w' d room (volS nm (vhd id ++ flat Rs) T) (gvRes (u, gotD (winM m0 Rs) key cook) :: .blk v (volC d id nm m) 100 :: .mp 38 m ((foldP 8 [] Rs).map pcE) :: F) := by
  have hop : OkP (foldP 8 [] Rs) := fun p hp => by
    obtain ⟨A, r, C, hR, rfl⟩ := plc_mem (foldP_plc hp)
    have hr := hok r (by rw [hR]; simp)
    have hx := (encNE_zero.1 hr.enc).1
    have hz := szR_le r
    have hl : lenR Rs = lenR A + (szR r + lenR C) := by rw [hR, lenR_app]; simp [lenR]
    exact ⟨hr.key, hr.cook, by show 8 + lenR A ≤ _; omega, by show 28 ≤ szR r; omega, by show szR r ≤ _; omega⟩
  have hw := vget_win (S := volS nm (vhd id ++ flat Rs) T) vol_get hok key cook
  refine (vget_fn hn key cook hk (foldP_nd Rs 8 [] NdP.nil) hop hD).mono fun r w hP => ?_
  rw [vgetPost, hw.1, hw.2] at hP
  rw [gotD]
  by_cases hE : wgetE (winM m0 Rs) key cook = 0
  · rw [if_pos hE] at hP ⊢
    obtain ⟨u, hr, hD⟩ := hP
    exact ⟨u, by rw [hE]; exact hr, hD⟩
  · rw [if_neg hE] at hP ⊢
    obtain ⟨hr, hD⟩ := hP
    obtain ⟨dL, hL, hB, close⟩ := hD.open
    exact ⟨_, hr, close (F' := _ :: _ :: _ :: F) (hL.nilRow 5 1) hB⟩
end
theorem permG {x : Res} {A B : List Res} : (x :: (A ++ B)).Perm (A ++ (B ++ [x])) := by
  rw [← List.append_assoc]; exact List.perm_append_comm (l₁ := [x])
theorem permG7 {x a b c e f g h : Res} {B : List Res} : (x :: a :: b :: c :: e :: f :: g :: h :: B).Perm (a :: b :: c :: e :: f :: g :: h :: (B ++ [x])) := permG (A := [a, b, c, e, f, g, h])
theorem vsig_one {G : List (Value × List UInt8)} (h : ∀ g ∈ G, g.1.oneCell' = true) : ∀ u ∈ G.map (·.1), u.oneCell' = true := fun u hu => by
  obtain ⟨g, hg, rfl⟩ := List.mem_map.1 hu; exact h g hg
/-- what there is while all is asked for -/
def sameF (vv d m j : Nat) (Rs New : List Nd) (rv lv : Value) (la : Option Addr) (lc : Nat) (al : List InN) (dv ev : Value) (n : Nat) (G : List (Value × List UInt8)) : List Res :=
  .blk vv (volC d 5 (vnm 5) m) 100 :: .mp 38 m ((foldP 8 [] (Rs ++ New)).map pcE) :: .blk j (jC d 5 (vnm 5) (shN (vnm 5)) lv (8 + lenR Rs) (funcJ j) false) 76 :: .row 87 5 rv (lsOf Rs).length ((lsOf Rs).flatMap pcC) ::
    .row 42 4 (.slice la al.length lc) al.length (al.flatMap inC) :: .row 40 1 dv n (G.map (·.1)) :: .row 23 1 ev n (eVals (winM m0 (Rs ++ New)) al n) :: G.map gvRes
/-- and when it is asked for once more -/
def sameF3 (v2 m2 vv d m j : Nat) (Rs New Ks : List Nd) (lv : Value) (la : Option Addr) (lc : Nat) (al : List InN) (dv ev : Value) (n : Nat) (G : List (Value × List UInt8)) : List Res :=
  .blk v2 (volC d 5 (vnm 5) m2) 100 :: .mp 38 m2 ((foldP 8 [] Ks).map pcE) :: .blk j (jC d 5 (vnm 5) (shN (vnm 5)) lv (8 + lenR Rs) (funcJ j) true) 76 :: .blk vv (volC d 5 (vnm 5) m) 100 :: .mp 38 m ((foldP 8 [] (Rs ++ New)).map pcE) ::
    .row 42 4 (.slice la al.length lc) al.length (al.flatMap inC) :: .row 40 1 dv n (G.map (·.1)) :: .row 23 1 ev n (eVals (winM m0 (Rs ++ New)) al n) :: G.map gvRes
theorem at_half {al : List InN} {i c : Nat} {q : InN} (h : al[i]? = some q) (hc : c < 2) : keyAt al (2 * i + c) = q.key ∧ cookAt al (2 * i + c) = (q.cook + c) % 4294967296 := by
  have e1 : (2 * i + c) / 2 = i := by omega
  have e2 : (2 * i + c) % 2 = c := by omega
  rw [keyAt, cookAt, e1, e2, h]
  exact ⟨rfl, rfl⟩
set_option maxHeartbeats 32000000 in
theorem vsame_fn (va vw : Value) (ah ws : List InN) (steps : Int) (w0 : World) (ha : SlN w0 4 va ah.length (ah.flatMap inC)) (has : ∀ n ∈ ah, OkN w0 n) (hw : SlN w0 4 vw ws.length (ws.flatMap inC)) (hws : ∀ n ∈ ws, OkN w0 n)
    (hst : (Lit.int .i64 steps).wf = true) (hla : ah.length ≤ 1048576) (hlw : ws.length ≤ 1048576) :
    Fn Tryz.prog 6 #[va, vw, .int .i64 steps] w0 fun r w' => r = .bool true ∧ Below w0.heap.size w0 w' := by
  have hstr := i64_wf hst
  have hL := Sep.start Tryz.prog w0
  have hB := Nat.le_refl w0.heap.size
  have hn := nameIs (B := w0.heap.size) (w0 := w0) 5 (by decide)
  have hsz : (vnm 5).size ≤ 60 := by decide
  have hnm := hn.1.2
  have h8 : (vhd 5).length = 8 := vhd_len 5
  have hal : ∀ n ∈ ah ++ ws, OkN w0 n := fun n h => (List.mem_append.1 h).elim (has n) (hws n)
  obtain ⟨aa, ac, rfl⟩ := ha.shape
  obtain ⟨wa, wc, rfl⟩ := hw.shape
  have elemA : ∀ {L : List Res} {w' : World}, Sep Tryz.prog w0.heap.size w0 w' L → ∀ k (hk : k < ah.length), ∃ b o, aa = some ⟨b, o, none⟩ ∧ Row w' b o (ah.flatMap inC) := fun h k hk => (ha.below h.below).addr (by omega)
  have elemW : ∀ {L : List Res} {w' : World}, Sep Tryz.prog w0.heap.size w0 w' L → ∀ k (hk : k < ws.length), ∃ b o, wa = some ⟨b, o, none⟩ ∧ Row w' b o (ws.flatMap inC) := fun h k hk => (hw.below h.below).addr (by omega)
  refine Fn.mk Tryz.func6 rfl (by kernel_rfl) Tryz.ntmps6 rfl (by rw [Tryz.results6]) ?_
  repeat (first | (refine RunH ?_; intro w hL hB; try clear w) | (refine Both.mk ?_ ?_ <;> conv => whnf) | fail)
  refine Rv.buildS (len := 0) (vs := []) ttOk hL tl58 tl42 rfl rfl (by intro u hu; cases hu) (by decide) (by decide) hB fun bo w hL hB => ?_
  conv => whnf
  repeat (first | (refine RunH ?_; intro w hL hB; try clear w) | (refine Both.mk ?_ ?_ <;> conv => whnf) | fail)
  refine Rv.appendS (m := ah.length) ttOk hL tl58 tl42 rfl (by decide) 0 rfl (ha.below hL.below) (inC_one has) (by simp only [maxLen]; omega) (by omega) hB fun v1 w hL hB => ?_
  dsimp only [List.set] at hL
  rw [Nat.zero_add, List.flatMap_nil, List.nil_append] at hL
  obtain ⟨a1, c1, rfl⟩ := (show SlN w 4 v1 ah.length _ from hL.rowN (i := 0) rfl).shape
  conv => whnf
  repeat (first | (refine RunH ?_; intro w hL hB; try clear w) | (refine Both.mk ?_ ?_ <;> conv => whnf) | fail)
  refine Rv.appendS (m := ws.length) ttOk hL tl58 tl42 rfl (by decide) 0 rfl (hw.below hL.below) (inC_one hws) (by simp only [maxLen]; omega) (by omega) hB fun v2 w hL hB => ?_
  dsimp only [List.set] at hL
  rw [← List.flatMap_append, ← List.length_append] at hL
  have hNl : (ah ++ ws).length = ah.length + ws.length := List.length_append
  have hsap := sumI_app ah ws
  generalize hall : ah ++ ws = al at *
  obtain ⟨la, lc, rfl⟩ := (show SlN w 4 v2 al.length _ from hL.rowN (i := 0) rfl).shape
  have elem : ∀ {L : List Res} {w' : World} {i : Nat}, Sep Tryz.prog w0.heap.size w0 w' L → L[i]? = some (.row 42 4 (.slice la al.length lc) al.length (al.flatMap inC)) → ∀ k (hk : k < al.length), ∃ b o, la = some ⟨b, o, none⟩ ∧ Row w' b o (al.flatMap inC) := fun h hi k hk => (h.rowN hi).addr (by omega)
  conv => whnf
  repeat (first | (refine RunH ?_; intro w hL hB; try clear w) | (refine Both.mk ?_ ?_ <;> conv => whnf) | fail)
  refine V.loop (α := Nat) (fun k => [(0, .slice aa ah.length ac), (1, .slice wa ws.length wc), (2, .int .i64 steps), (8, .slice la al.length lc), (7, .int .i64 (sumI al k : Int)), (9, .int .i64 (k : Int))])
    (fun k w' => k ≤ al.length ∧ sumI al k ≤ 140737488400000 ∧ Sep Tryz.prog w0.heap.size w0 w' [.row 42 4 (.slice la al.length lc) al.length (al.flatMap inC)] ∧ w0.heap.size ≤ w'.heap.size) (fun k => al.length - k) 0 ⟨rfl, rfl, rfl, rfl, rfl, rfl, trivial⟩ ⟨by omega, by simp [sumI], hL, hB⟩ ?_
  clear hL hB
  rintro k w ⟨hk, hsum, hL, hB⟩
  dsimp only at *
  by_cases hgo : k < al.length ∧ sumI al k ≤ 12000
  · obtain ⟨hlt, hsm⟩ := hgo
    have hm := hal _ (List.getElem_mem hlt)
    have hml := hm.len
    obtain ⟨bb, o, rfl, hrow⟩ := elem (i := 0) hL rfl k hlt
    have hsu := sumI_succ hlt
    have hx : al[k]? = some al[k] := List.getElem?_eq_getElem hlt
    generalize hq : al[k] = q at *
    obtain ⟨qk, qc, qd, qv, ql⟩ := q
    dsimp only at hml hsu
    have hsl := hm.sl
    dsimp only at hsl
    obtain ⟨pa, pc, rfl⟩ := hsl.shape
    rw [bv_length] at *
    repeat (first | (refine RunH ?_; intro w hL hB; try clear w) | (refine Both.mk ?_ ?_ <;> conv => whnf) | fail)
    intro o1 ho1
    conv => whnf
    repeat (first | (refine RunH ?_; intro w hL hB; try clear w) | (refine Both.mk ?_ ?_ <;> conv => whnf) | fail)
    refine Ld.rowF ttOk (f := inC) inC_len 3 hrow (ss := al) (k := k) tl40 rfl hx rfl (by omega) ?_
    conv => whnf
    repeat (first | (refine RunH ?_; intro w hL hB; try clear w) | (refine Both.mk ?_ ?_ <;> conv => whnf) | fail)
    exact ⟨k + 1, ⟨rfl, rfl, rfl, rfl, vint (by rw [hsu]; push_cast; omega), vint (by push_cast; omega), trivial⟩, ⟨by omega, by omega, hL, hB⟩, (by first | omega | (dsimp only; omega))⟩
  by_cases hbig : 12000 < sumI al k ∨ steps < 0
  · by_cases hb1 : 12000 < sumI al k
    · by_cases hlt : k < al.length
      · have h20 : ¬ sumI al k ≤ 12000 := fun h => hgo ⟨hlt, h⟩
        repeat (first | (refine RunH ?_; intro w hL hB; try clear w) | (refine Both.mk ?_ ?_ <;> conv => whnf) | fail)
        exact ⟨rfl, hL.below⟩
      · repeat (first | (refine RunH ?_; intro w hL hB; try clear w) | (refine Both.mk ?_ ?_ <;> conv => whnf) | fail)
        exact ⟨rfl, hL.below⟩
    · have hb2 : steps < 0 := hbig.resolve_left hb1
      have hlt : ¬ k < al.length := fun h => hgo ⟨h, by omega⟩
      repeat (first | (refine RunH ?_; intro w hL hB; try clear w) | (refine Both.mk ?_ ?_ <;> conv => whnf) | fail)
      exact ⟨rfl, hL.below⟩
  have hke : k = al.length := by
    rcases Nat.lt_or_ge k al.length with h | h
    · exact absurd ⟨h, by omega⟩ hgo
    · omega
  subst hke
  have hN := sumI_le al al.length 0 (by omega) (Nat.le_refl _)
  simp only [sumI, List.take_zero, List.map_nil, List.sum_nil] at hN
  replace hN : 40 * al.length ≤ sumI al al.length := by simpa [sumI] using hN
  have hsA : sumI al al.length = sumI ah ah.length + sumI ws ws.length := by rw [hNl]; exact hsap _
  repeat (first | (refine RunH ?_; intro w hL hB; try clear w) | (refine Both.mk ?_ ?_ <;> conv => whnf) | fail)
  refine (new_fn 1048576 hL hB).mono fun r w hr => ?_
  obtain ⟨d, rfl, hD⟩ := hr.1 (by decide)
  clear hr hL hB
  obtain ⟨dL, hL, hB, close⟩ := hD.open
  clear hD
  conv => whnf
  repeat (first | (refine RunH ?_; intro w hL hB; try clear w) | (refine Both.mk ?_ ?_ <;> conv => whnf) | fail)
  refine (create_fn hn (close (F' := [_]) hL hB)).mono fun r w ⟨_, _, hr⟩ => ?_
  obtain ⟨vv, m, rfl, hD⟩ := hr rfl (one_create hnm (by decide) (id := 5)).1
  rw [(one_create hnm (by decide)).2] at hD
  clear hr hL hB close
  obtain ⟨dL, hL, hB, close⟩ := hD.open
  clear hD
  conv => whnf
  repeat (first | (refine RunH ?_; intro w hL hB; try clear w) | (refine Both.mk ?_ ?_ <;> conv => whnf) | fail)
  replace hD := close (F' := [_, _, _]) hL hB
  clear hL hB close
  refine V.loop (α := Nat × List Nd) (fun z => [(0, .slice aa ah.length ac), (1, .slice wa ws.length wc), (2, .int .i64 steps), (8, .slice la al.length lc), (10, ptr d), (12, ptr vv), (14, .int .i64 (z.1 : Int))])
    (fun z w' => z.1 ≤ ah.length ∧ (∀ r ∈ z.2, OkRec r) ∧ lenR z.2 ≤ sumI ah z.1 ∧ DkS w0.heap.size w0 w' d (1048576 : Int).toNat (volS (vnm 5) (vhd 5 ++ flat z.2) []) [.blk vv (volC d 5 (vnm 5) m) 100, .mp 38 m ((foldP 8 [] z.2).map pcE), .row 42 4 (.slice la al.length lc) al.length (al.flatMap inC)]) (fun z => ah.length - z.1) (0, []) ⟨rfl, rfl, rfl, rfl, rfl, rfl, rfl, trivial⟩ ⟨by dsimp only; omega, by simp, by simp [lenR], by simpa [flat, foldP, vol_one] using hD⟩ ?_
  clear hD hk hgo
  rintro ⟨k, Rs⟩ w ⟨hk, hok, hlR, hD⟩
  dsimp only at hk hok hlR hD ⊢
  by_cases hlt : k < ah.length
  · obtain ⟨dL, hL, hB, close⟩ := hD.open
    clear hD
    have hm := has _ (List.getElem_mem hlt)
    obtain ⟨bb, o, rfl, hrow⟩ := elemA hL k hlt
    have hsu := sumI_succ hlt
    have hx : ah[k]? = some ah[k] := List.getElem?_eq_getElem hlt
    generalize hq : ah[k] = q at *
    obtain ⟨qk, qc, qd, qv, ql⟩ := q
    obtain ⟨mk, mc, msl, mln⟩ := hm
    dsimp only at hsu mk mc msl mln
    repeat (first | (refine RunH ?_; intro w hL hB; try clear w) | (refine Both.mk ?_ ?_ <;> conv => whnf) | fail)
    intro o1 ho1
    conv => whnf
    refine Ld.rowN ttOk (f := inC) inC_len hrow (ss := ah) (k := k) tl42 rfl rfl hx (by omega) ?_
    conv => whnf
    repeat (first | (refine RunH ?_; intro w hL hB; try clear w) | (refine Both.mk ?_ ?_ <;> conv => whnf) | fail)
    refine (vputV_fn hn qk qc qd _ ql mk mc hok (fun w' h => h.sl msl rfl) (close (F' := [_, _, _]) hL hB)).mono fun r w ⟨e, hr, Rs', hok', hRs', hD⟩ => ?_
    clear hL hB close
    subst hr
    obtain ⟨dL, hL, hB, close⟩ := hD.open
    conv => whnf
    repeat (first | (refine RunH ?_; intro w hL hB; try clear w) | (refine Both.mk ?_ ?_ <;> conv => whnf) | fail)
    refine ⟨(k + 1, Rs'), ⟨rfl, rfl, rfl, rfl, rfl, rfl, vint (by push_cast; omega), trivial⟩, ⟨by dsimp only; omega, hok', ?_, hD⟩, (by first | omega | (dsimp only; omega))⟩
    dsimp only
    rcases hRs' with rfl | rfl
    · omega
    · have hszr := szR_le ⟨qk, qc, qd, ql⟩
      rw [lenR_app]
      simp only [lenR, List.map_cons, List.map_nil, List.sum_cons, List.sum_nil] at *
      omega
  obtain rfl : k = ah.length := by omega
  have hRl := lenR_len Rs
  have hll := lsOf_len Rs
  obtain ⟨dL, hL, hB, close⟩ := hD.open
  clear hD
  repeat (first | (refine RunH ?_; intro w hL hB; try clear w) | (refine Both.mk ?_ ?_ <;> conv => whnf) | fail)
  refine (begin_one hn hsz Rs hok (by omega) (by show _ ≤ 1048576; omega) (close (F' := [_, _, _]) hL hB)).mono fun r w ⟨j, rv, hr, hlv, hD⟩ => ?_
  subst hr
  clear hL hB close
  obtain ⟨dL, hL, hB, close⟩ := hD.open
  rw [jobR] at hL
  conv => whnf
  repeat (first | (refine RunH ?_; intro w hL hB; try clear w) | (refine Both.mk ?_ ?_ <;> conv => whnf) | fail)
  clear hL hB close
  rw [← List.append_nil Rs] at hD
  replace hD : DkS w0.heap.size w0 w d (1048576 : Int).toNat (volS (vnm 5) (vhd 5 ++ flat (Rs ++ [])) (shS (shN (vnm 5)) (vhd 5 ++ gone 5 Rs 0) 0)) (jobR j d 5 (vnm 5) Rs rv rv [.blk vv (volC d 5 (vnm 5) m) 100, .mp 38 m ((foldP 8 [] (Rs ++ [])).map pcE), .row 42 4 (.slice la al.length lc) al.length (al.flatMap inC)]) := by simpa using hD
  obtain ⟨st, rfl⟩ := Int.eq_ofNat_of_zero_le (show 0 ≤ steps by omega)
  refine V.loop (α := Nat × List Nd × Nat × Value) (fun z => [(0, .slice aa ah.length ac), (1, .slice wa ws.length wc), (2, .int .i64 (st : Int)), (8, .slice la al.length lc), (10, ptr d), (12, ptr vv), (15, ptr j), (17, .int .i64 (z.1 : Int))])
    (fun z w' => z.1 ≤ ws.length ∧ (∀ r ∈ Rs ++ z.2.1, OkRec r) ∧ lenR (Rs ++ z.2.1) ≤ sumI ah ah.length + sumI ws z.1 ∧ (z.2.1.length ≤ z.1) ∧ z.2.2.1 ≤ (lsOf Rs).length ∧ LeftIs rv (lsOf Rs).length z.2.2.1 z.2.2.2 ∧
      DkS w0.heap.size w0 w' d (1048576 : Int).toNat (volS (vnm 5) (vhd 5 ++ flat (Rs ++ z.2.1)) (shS (shN (vnm 5)) (vhd 5 ++ gone 5 Rs z.2.2.1) 0)) (jobR j d 5 (vnm 5) Rs rv z.2.2.2 [.blk vv (volC d 5 (vnm 5) m) 100, .mp 38 m ((foldP 8 [] (Rs ++ z.2.1)).map pcE), .row 42 4 (.slice la al.length lc) al.length (al.flatMap inC)])) (fun z => ws.length - z.1) (0, [], 0, rv) ⟨rfl, rfl, rfl, rfl, rfl, rfl, rfl, rfl, trivial⟩ ⟨by dsimp only; omega, by simpa using hok, by simp [sumI] at *; omega, Nat.le_refl _, Nat.zero_le _, hlv, hD⟩ ?_
  clear hD hk hlt hlv
  rintro ⟨k, New, q0, lv⟩ w ⟨hk, hokN, hlN, hNl2, hq0, hlv, hD⟩
  dsimp only at hk hokN hlN hNl2 hq0 hlv hD ⊢
  have hsWk := sumI_le ws ws.length k (by omega) (Nat.le_refl _)
  by_cases hlt : k < ws.length
  · obtain ⟨dL, hL, hB, close⟩ := hD.open
    rw [jobR] at hL
    have hm := hws _ (List.getElem_mem hlt)
    obtain ⟨bb, o, rfl, hrow⟩ := elemW hL k hlt
    have hsu := sumI_succ hlt
    have hsn := sumI_le ws ws.length (k + 1) (by omega) (Nat.le_refl _)
    have hx : ws[k]? = some ws[k] := List.getElem?_eq_getElem hlt
    generalize hq : ws[k] = q at *
    obtain ⟨qk, qc, qd, qv, ql⟩ := q
    obtain ⟨mk, mc, msl, mln⟩ := hm
    dsimp only at hsu mk mc msl mln
    repeat (first | (refine RunH ?_; intro w hL hB; try clear w) | (refine Both.mk ?_ ?_ <;> conv => whnf) | (refine Rem.at st 5 rfl rfl (by decide) ?_; conv => whnf) | fail)
    clear hL hB close
    refine (step_one hn hsz Rs New q0 hq0 ((st % 5 : Nat) : Int) (by omega) (by omega) hlv hD).mono fun r w ⟨q, e, lv', hq1, _, _, _, hr, hlv', hD⟩ => ?_
    subst hr
    obtain ⟨dL, hL, hB, close⟩ := hD.open
    rw [jobR] at hL
    conv => whnf
    repeat (first | (refine RunH ?_; intro w hL hB; try clear w) | (refine Both.mk ?_ ?_ <;> conv => whnf) | fail)
    intro o1 ho1
    conv => whnf
    refine Ld.rowN ttOk (f := inC) inC_len ((hw.below hL.below).rowOf) (ss := ws) (k := k) tl42 rfl rfl hx (by omega) ?_
    conv => whnf
    repeat (first | (refine RunH ?_; intro w hL hB; try clear w) | (refine Both.mk ?_ ?_ <;> conv => whnf) | fail)
    clear hL hB close
    rw [jobR] at hD
    refine (vputV_fn hn qk qc qd _ ql mk mc hokN (fun w' h => h.sl msl rfl) (hD.perm (swap22 _ _ _ _ _))).mono fun r w ⟨e2, hr, Rs', hok', hRs', hD⟩ => ?_
    subst hr
    obtain ⟨dL, hL, hB, close⟩ := hD.open
    obtain ⟨New', rfl, hN'⟩ : ∃ New', Rs' = Rs ++ New' ∧ (New' = New ∨ New' = New ++ [⟨qk, qc, qd, ql⟩]) := by
      rcases hRs' with rfl | rfl
      · exact ⟨New, rfl, .inl rfl⟩
      · exact ⟨New ++ [⟨qk, qc, qd, ql⟩], by simp, .inr rfl⟩
    conv => whnf
    repeat (first | (refine RunH ?_; intro w hL hB; try clear w) | (refine Both.mk ?_ ?_ <;> conv => whnf) | fail)
    refine ⟨(k + 1, New', q0 + q, lv'), ⟨rfl, rfl, rfl, rfl, rfl, rfl, rfl, vint (by push_cast; omega), trivial⟩, ⟨by dsimp only; omega, hok', ?_, ?_, hq1, hlv', hD.perm (swap22 _ _ _ _ _)⟩, (by first | omega | (dsimp only; omega))⟩
    · dsimp only
      rcases hN' with rfl | rfl
      · omega
      · have hszr := szR_le ⟨qk, qc, qd, ql⟩
        rw [← List.append_assoc, lenR_app]
        simp only [lenR, List.map_cons, List.map_nil, List.sum_cons, List.sum_nil] at *
        omega
    · dsimp only
      rcases hN' with rfl | rfl
      · omega
      · simp; omega
  obtain rfl : k = ws.length := by omega
  have hNA := lenR_app Rs New
  have hlNm : lenR (Rs ++ New) ≤ 12000 := by omega
  obtain ⟨dL, hL, hB, close⟩ := hD.open
  rw [jobR] at hL
  repeat (first | (refine RunH ?_; intro w hL hB; try clear w) | (refine Both.mk ?_ ?_ <;> conv => whnf) | fail)
  replace hL := hL.nilRow 23 1
  replace hL := hL.nilRow 40 1
  replace hL : Sep Tryz.prog w0.heap.size w0 w (.blk vv (volC d 5 (vnm 5) m) 100 :: .mp 38 m ((foldP 8 [] (Rs ++ New)).map pcE) :: .blk j (jC d 5 (vnm 5) (shN (vnm 5)) lv (8 + lenR Rs) (funcJ j) false) 76 :: .row 87 5 rv (lsOf Rs).length ((lsOf Rs).flatMap pcC) :: .row 42 4 (.slice la al.length lc) al.length (al.flatMap inC) :: .row 40 1 (.slice none 0 0) 0 [] :: .row 23 1 (.slice none 0 0) 0 [] :: dL) := hL.perm (by
    have h1 := (List.perm_append_comm (l₁ := [Res.row 40 1 (.slice none 0 0) 0 [], .row 23 1 (.slice none 0 0) 0 []]) (l₂ := [Res.blk j (jC d 5 (vnm 5) (shN (vnm 5)) lv (8 + lenR Rs) (funcJ j) false) 76, .row 87 5 rv (lsOf Rs).length ((lsOf Rs).flatMap pcC), .blk vv (volC d 5 (vnm 5) m) 100, .mp 38 m ((foldP 8 [] (Rs ++ New)).map pcE), .row 42 4 (.slice la al.length lc) al.length (al.flatMap inC)])).append_right dL
    exact h1.trans (swap22 _ _ _ _ _))
  have hokM : ∀ r ∈ Rs ++ New, OkRec r := hokN
  have hsm1 : 8 + lenR (Rs ++ New) ≤ 1073741824 := by omega
  replace hD := close (F' := sameF vv d m j Rs New rv lv la lc al (.slice none 0 0) (.slice none 0 0) 0 []) hL hB
  clear hL hB close
  refine V.loop (α := Nat × List (Value × List UInt8) × Value × Value) (fun z => [(1, .slice wa ws.length wc), (8, .slice la al.length lc), (12, ptr vv), (15, ptr j), (18, z.2.2.1), (19, z.2.2.2), (20, .int .i64 (z.1 : Int))])
    (fun z w' => z.1 ≤ al.length ∧ z.2.1.length = 2 * z.1 ∧ z.2.1.map (·.2) = (List.range (2 * z.1)).map (gotDt (winM m0 (Rs ++ New)) al) ∧ (∀ g ∈ z.2.1, g.1.oneCell' = true) ∧
      DkS w0.heap.size w0 w' d (1048576 : Int).toNat (volS (vnm 5) (vhd 5 ++ flat (Rs ++ New)) (shS (shN (vnm 5)) (vhd 5 ++ gone 5 Rs q0) 0)) (sameF vv d m j Rs New rv lv la lc al z.2.2.1 z.2.2.2 (2 * z.1) z.2.1)) (fun z => al.length - z.1) (0, [], .slice none 0 0, .slice none 0 0) ⟨rfl, rfl, rfl, rfl, rfl, rfl, rfl, trivial⟩ ⟨Nat.zero_le _, rfl, rfl, by simp, hD⟩ ?_
  clear hD
  rintro ⟨i, G, dv, ev⟩ w ⟨hi, hG1, hG2, hG3, hD⟩
  dsimp only at hi hG1 hG2 hG3 hD ⊢
  by_cases hil : i < al.length
  · obtain ⟨dL, hL, hB, close⟩ := hD.open
    rw [sameF] at hL
    obtain ⟨da, dc, rfl⟩ := (show SlN w 1 dv (2 * i) _ from hL.rowN (i := 5) rfl).shape
    obtain ⟨ea, ec, rfl⟩ := (show SlN w 1 ev (2 * i) _ from hL.rowN (i := 6) rfl).shape
    repeat (first | (refine RunH ?_; intro w hL hB; try clear w) | (refine Both.mk ?_ ?_ <;> conv => whnf) | fail)
    clear hL hB close
    refine V.loop (α := Nat × List (Value × List UInt8) × Value × Value) (fun z => [(1, .slice wa ws.length wc), (8, .slice la al.length lc), (12, ptr vv), (15, ptr j), (18, z.2.2.1), (19, z.2.2.2), (20, .int .i64 (i : Int)), (21, .int .u32 (z.1 : Int))])
      (fun z w' => z.1 ≤ 2 ∧ z.2.1.length = 2 * i + z.1 ∧ z.2.1.map (·.2) = (List.range (2 * i + z.1)).map (gotDt (winM m0 (Rs ++ New)) al) ∧ (∀ g ∈ z.2.1, g.1.oneCell' = true) ∧
        DkS w0.heap.size w0 w' d (1048576 : Int).toNat (volS (vnm 5) (vhd 5 ++ flat (Rs ++ New)) (shS (shN (vnm 5)) (vhd 5 ++ gone 5 Rs q0) 0)) (sameF vv d m j Rs New rv lv la lc al z.2.2.1 z.2.2.2 (2 * i + z.1) z.2.1)) (fun z => 2 - z.1) (0, G, .slice da (2 * i) dc, .slice ea (2 * i) ec) ⟨rfl, rfl, rfl, rfl, rfl, rfl, rfl, rfl, trivial⟩ ⟨Nat.zero_le _, hG1, hG2, hG3, hD⟩ ?_
    clear hD hG1 hG2 hG3
    rintro ⟨c, G, dv, ev⟩ w ⟨hc, hG1, hG2, hG3, hD⟩
    dsimp only at hc hG1 hG2 hG3 hD ⊢
    obtain ⟨dL, hL, hB, close⟩ := hD.open
    rw [sameF] at hL
    obtain ⟨da, dc, rfl⟩ := (show SlN w 1 dv (2 * i + c) _ from hL.rowN (i := 5) rfl).shape
    obtain ⟨ea, ec, rfl⟩ := (show SlN w 1 ev (2 * i + c) _ from hL.rowN (i := 6) rfl).shape
    by_cases hcl : c < 2
    case neg =>
      obtain rfl : c = 2 := by omega
      repeat (first | (refine RunH ?_; intro w hL hB; try clear w) | (refine Both.mk ?_ ?_ <;> conv => whnf) | fail)
      exact ⟨(i + 1, G, .slice da (2 * i + 2) dc, .slice ea (2 * i + 2) ec), ⟨rfl, rfl, rfl, rfl, rfl, rfl, vint (by push_cast; omega), trivial⟩, ⟨by dsimp only; omega, hG1, hG2, hG3, hD⟩, (by first | omega | (dsimp only; omega))⟩
    have hm := hal _ (List.getElem_mem hil)
    have hx : al[i]? = some al[i] := List.getElem?_eq_getElem hil
    generalize hq : al[i] = q at *
    obtain ⟨qk, qc, qd, qv, ql⟩ := q
    obtain ⟨mk, mc, msl, mln⟩ := hm
    dsimp only at mk mc msl mln
    obtain ⟨hk1, hc1⟩ := at_half (c := c) hx hcl
    dsimp only at hk1 hc1
    obtain ⟨bb, o, rfl, _⟩ := elem (i := 4) hL rfl i hil
    have rowC : ∀ x, Sep Tryz.prog w0.heap.size w0 x [.row 42 4 (.slice (some ⟨bb, o, none⟩) al.length lc) al.length (al.flatMap inC)] → Row x bb o (al.flatMap inC) := fun x hx => (hx.rowN (i := 0) rfl).rowOf
    repeat (first | (refine RunK ?_; intro w hL hB; try clear w) | (refine V.tree ttOk (fun x0 => Sep Tryz.prog _ w0 x0 [.row 42 4 (.slice (some ⟨bb, o, none⟩) al.length lc) al.length (al.flatMap inC)]) (.q 0 (.q 1 (.q 2 (.q 3 (.q 4 (.q 5 (.q 6 (.q 7 (.q 8 (.q 9 (.q 10 (.q 11 (.q 12 (.alt 13 (.q 14 (.q 15 (.q 16 (.q 17 (.q 18 .nil))))) .stop)))))))))))))) mixed (by decide +kernel) (hL.drew.one (i := 4) rfl) ?_; replace hL := hL.drew; conv => whnf) | (refine V.tailA ttOk mixed (by decide +kernel) ?_; replace hL := hL.drew; conv => whnf) | (refine Both.mk ?_ ?_ <;> conv => whnf) | fail)
    intro o1 ho1
    conv => whnf
    repeat (first | (refine RunH ?_; intro w hL hB; try clear w) | (refine Both.mk ?_ ?_ <;> conv => whnf) | fail)
    refine Lq.of_class (fun x hx' => Ld.rowF ttOk (f := inC) inC_len 0 (rowC x hx') (ss := al) (o := o) (o' := o1 + 0) (k := i) tl38 rfl hx rfl (by omega) rfl) ?_
    conv => whnf
    repeat (first | (refine RunH ?_; intro w hL hB; try clear w) | (refine Both.mk ?_ ?_ <;> conv => whnf) | fail)
    intro o2 ho2
    conv => whnf
    repeat (first | (refine RunH ?_; intro w hL hB; try clear w) | (refine Both.mk ?_ ?_ <;> conv => whnf) | fail)
    refine Lq.of_class (fun x hx' => Ld.rowF ttOk (f := inC) inC_len 1 (rowC x hx') (ss := al) (o := o) (o' := o2 + 1) (k := i) tl39 rfl hx rfl (by omega) rfl) ?_
    conv => whnf
    repeat (first | (refine RunH ?_; intro w hL hB; try clear w) | (refine Both.mk ?_ ?_ <;> conv => whnf) | (refine Ar.m32 (qc + c) (by push_cast; rfl) ?_; conv => whnf) | fail)
    refine (vgetU_fn hn qk ((qc + c) % 4294967296) mk hokM hsm1 (close (F' := _ :: _ :: _ :: _ :: _ :: _ :: _ :: G.map gvRes) hL hB)).mono fun r w ⟨u, hr, hD⟩ => ?_
    clear hL hB close
    subst hr
    obtain ⟨dL, hL, hB, close⟩ := hD.open
    rw [gvRes] at hL
    dsimp only at hL
    obtain ⟨ua, uc, rfl⟩ := (show SlN w 1 u _ _ from hL.rowN (i := 0) rfl).shape
    conv => whnf
    refine ⟨hL.one (i := 5) rfl, ?_⟩
    conv => whnf
    repeat (first | (refine RunH ?_; intro w hL hB; try clear w) | (refine Both.mk ?_ ?_ <;> conv => whnf) | fail)
    refine Rv.buildS (len := 1) (vs := [.slice ua _ uc]) ttOk hL tl68 tl40 rfl rfl (by intro u hu; simp only [List.mem_singleton] at hu; subst hu; rfl) (by decide) (by decide) hB fun b1 w hL hB => ?_
    conv => whnf
    repeat (first | (refine RunH ?_; intro w hL hB; try clear w) | (refine Both.mk ?_ ?_ <;> conv => whnf) | fail)
    refine Rv.appendS (m := 1) ttOk hL tl68 tl40 rfl (by decide) 7 rfl (hL.rowN (i := 0) rfl) (by intro u hu; simp only [List.flatMap_cons, List.flatMap_nil, List.append_nil, cellsL, List.mem_singleton] at hu; subst hu; rfl) (by simp only [maxLen]; omega) (by omega) hB fun dv' w hL hB => ?_
    dsimp only [List.set] at hL
    obtain ⟨da', dc', rfl⟩ := (show SlN w 1 dv' (2 * i + c + 1) _ from hL.rowN (i := 7) rfl).shape
    conv => whnf
    repeat (first | (refine RunH ?_; intro w hL hB; try clear w) | (refine Both.mk ?_ ?_ <;> conv => whnf) | fail)
    refine Rv.buildS (len := 1) (vs := [.int .i64 (wgetE (winM m0 (Rs ++ New)) qk ((qc + c) % 4294967296) : Nat)]) ttOk hL tl69 tl23 rfl rfl (by intro u hu; simp only [List.mem_singleton] at hu; subst hu; rfl) (by decide) (by decide) hB fun b2 w hL hB => ?_
    conv => whnf
    repeat (first | (refine RunH ?_; intro w hL hB; try clear w) | (refine Both.mk ?_ ?_ <;> conv => whnf) | fail)
    refine Rv.appendS (m := 1) ttOk hL tl69 tl23 rfl (by decide) 9 rfl (hL.rowN (i := 0) rfl) (by intro u hu; simp only [List.flatMap_cons, List.flatMap_nil, List.append_nil, cellsL, List.mem_singleton] at hu; subst hu; rfl) (by simp only [maxLen]; omega) (by omega) hB fun ev' w hL hB => ?_
    dsimp only [List.set] at hL
    obtain ⟨ea', ec', rfl⟩ := (show SlN w 1 ev' (2 * i + c + 1) _ from hL.rowN (i := 9) rfl).shape
    conv => whnf
    repeat (first | (refine RunH ?_; intro w hL hB; try clear w) | (refine Both.mk ?_ ?_ <;> conv => whnf) | fail)
    have hgE : gotE (winM m0 (Rs ++ New)) al (2 * i + c) = wgetE (winM m0 (Rs ++ New)) qk ((qc + c) % 4294967296) := by rw [gotE, hk1, hc1]
    have hgD : gotDt (winM m0 (Rs ++ New)) al (2 * i + c) = gotD (winM m0 (Rs ++ New)) qk ((qc + c) % 4294967296) := by rw [gotDt, hk1, hc1]
    refine ⟨(c + 1, G ++ [(.slice ua (gotD (winM m0 (Rs ++ New)) qk ((qc + c) % 4294967296)).length uc, gotD (winM m0 (Rs ++ New)) qk ((qc + c) % 4294967296))], .slice da' (2 * i + c + 1) dc', .slice ea' (2 * i + c + 1) ec'), ⟨rfl, rfl, rfl, rfl, rfl, rfl, rfl, vint (by push_cast; omega), trivial⟩, ⟨by dsimp only; omega, by simp; omega, ?_, ?_, ?_⟩, (by first | omega | (dsimp only; omega))⟩
    · dsimp only
      rw [← Nat.add_assoc, List.range_succ, List.map_append, List.map_append, hG2, List.map_singleton, List.map_singleton, hgD]
    · intro g hg
      rcases List.mem_append.1 hg with hg | hg
      · exact hG3 g hg
      · simp only [List.mem_singleton] at hg
        subst hg; rfl
    · have hD2 := close (F' := _ :: _ :: _ :: _ :: _ :: _ :: _ :: _ :: G.map gvRes) (hL.tl.tl) hB
      have hD3 := hD2.perm permG7
      dsimp only
      rw [sameF, List.map_append, List.map_append, ← Nat.add_assoc, eVals_succ, hgE]
      exact hD3
  obtain rfl : i = al.length := by omega
  obtain ⟨dL, hL, hB, close⟩ := hD.open
  rw [sameF] at hL
  repeat (first | (refine RunH ?_; intro w hL hB; try clear w) | (refine Both.mk ?_ ?_ <;> conv => whnf) | fail)
  clear hL hB close
  rw [sameF] at hD
  refine (vsize_fn (by omega) hD).mono fun r w ⟨hr, hD⟩ => ?_
  subst hr
  have hfl : (vhd 5 ++ flat (Rs ++ New)).length = 8 + lenR (Rs ++ New) := by rw [List.length_append, h8, flatR_len]
  rw [vol_sz, hfl]
  obtain ⟨dL, hL, hB, close⟩ := hD.open
  conv => whnf
  repeat (first | (refine RunH ?_; intro w hL hB; try clear w) | (refine Both.mk ?_ ?_ <;> conv => whnf) | fail)
  clear hL hB close
  have hkl := keep_len (foldP 8 [] Rs) Rs 8
  refine (commit_one (New := New) hn hsz Rs hokM q0 hq0 (by omega) hlv (hD.perm (swap22 _ _ _ _ _))).mono fun r w ⟨lv', hr, _⟩ => ?_
  obtain ⟨v2, m2, hr, hD⟩ := hr (by show _ ≤ 1048576; omega)
  subst hr
  have hwin := win_anew Rs New
  have hokK : ∀ r ∈ keepR (foldP 8 [] Rs) 8 Rs ++ New, OkRec r := fun r hr => by
    rcases List.mem_append.1 hr with hr | hr
    · exact keep_ok (fun r hr => hokM r (by simp [hr])) r hr
    · exact hokM r (by simp [hr])
  have hknd := keep_nd Rs
  have hKA := lenR_app (keepR (foldP 8 [] Rs) 8 Rs) New
  have hKl := lenR_len (keepR (foldP 8 [] Rs) 8 Rs ++ New)
  have hdirt : ws.length = 0 → sumN (foldP 8 [] (keepR (foldP 8 [] Rs) 8 Rs ++ New)) = lenR (keepR (foldP 8 [] Rs) 8 Rs ++ New) := fun h0 => by
    obtain rfl : New = [] := List.eq_nil_of_length_eq_zero (by omega)
    rw [List.append_nil, win_dirt _ hknd, sumN_plc]
  generalize keepR (foldP 8 [] Rs) 8 Rs ++ New = Ks at *
  have hfl2 : (vhd 5 ++ flat Ks).length = 8 + lenR Ks := by rw [List.length_append, h8, flatR_len]
  have hsumK : sumN (foldP 8 [] Ks) ≤ 2147483648 := by
    have h1 := sumN_le (ps := foldP 8 [] Ks) (c := 65571) fun p hp => by
      obtain ⟨A, r, C, hR, rfl⟩ := plc_mem (foldP_plc hp)
      have hx := (encNE_zero.1 (hokK r (by rw [hR]; simp)).enc).1
      have hz := szR_le r
      show szR r ≤ _; omega
    have h2 := foldP_len Ks 8 []
    simp only [List.length_nil] at h2
    have h3 : (foldP 8 [] Ks).length * 65571 ≤ 500 * 65571 := Nat.mul_le_mul_right _ (by omega)
    omega
  obtain ⟨dL, hL, hB, close⟩ := hD.open
  conv => whnf
  repeat (first | (refine RunH ?_; intro w hL hB; try clear w) | (refine Both.mk ?_ ?_ <;> conv => whnf) | fail)
  clear hL hB close
  refine (vsize_fn (by omega) hD).mono fun r w ⟨hr, hD⟩ => ?_
  subst hr
  rw [vol_sz, hfl2]
  obtain ⟨dL, hL, hB, close⟩ := hD.open
  conv => whnf
  by_cases hw0 : ws.length = 0
  case' pos =>
    repeat (first | (refine RunH ?_; intro w hL hB; try clear w) | (refine Both.mk ?_ ?_ <;> conv => whnf) | fail)
    clear hL hB close
    refine (vdirt_fn (by omega) (foldP_nd Ks 8 [] NdP.nil) hsumK hD).mono fun r w ⟨hr, hD⟩ => ?_
    subst hr
    rw [vol_sz, hfl2, hdirt hw0, show 8 + lenR Ks - 8 - lenR Ks = 0 from by omega]
    obtain ⟨dL, hL, hB, close⟩ := hD.open
    conv => whnf
    repeat (first | (refine RunH ?_; intro w hL hB; try clear w) | (refine Both.mk ?_ ?_ <;> conv => whnf) | fail)
  case' neg =>
    repeat (first | (refine RunH ?_; intro w hL hB; try clear w) | (refine Both.mk ?_ ?_ <;> conv => whnf) | fail)
  all_goals (
    clear hL hB close
    replace hD : DkS w0.heap.size w0 w d (1048576 : Int).toNat (volS (vnm 5) (vhd 5 ++ flat Ks) []) (sameF3 v2 m2 vv d m j Rs New Ks lv' la lc al dv ev (2 * al.length) G) := hD
    refine V.loop (α := Nat) (fun i => [(8, .slice la al.length lc), (18, dv), (19, ev), (25, ptr v2), (27, .int .i64 (i : Int))])
      (fun i w' => i ≤ al.length ∧ DkS w0.heap.size w0 w' d (1048576 : Int).toNat (volS (vnm 5) (vhd 5 ++ flat Ks) []) (sameF3 v2 m2 vv d m j Rs New Ks lv' la lc al dv ev (2 * al.length) G)) (fun i => al.length - i) 0 ⟨rfl, rfl, rfl, rfl, rfl, trivial⟩ ⟨Nat.zero_le _, hD⟩ ?_
    clear hD
    rintro i w ⟨hi, hD⟩
    by_cases hil : i < al.length
    case neg =>
      obtain ⟨dL, hL, hB, close⟩ := hD.open
      repeat (first | (refine RunH ?_; intro w hL hB; try clear w) | (refine Both.mk ?_ ?_ <;> conv => whnf) | (refine (knownJ_fn _).mono fun r w hr => ?_; obtain ⟨hr, hw⟩ := hr; subst hr; replace hL := hL.call hB (Turns.of_below hw); replace hB := Nat.le_trans hB hw.size; conv => whnf) | fail)
      exact ⟨rfl, hL.below⟩
    obtain ⟨dL, hL, hB, close⟩ := hD.open
    rw [sameF3] at hL
    repeat (first | (refine RunH ?_; intro w hL hB; try clear w) | (refine Both.mk ?_ ?_ <;> conv => whnf) | fail)
    clear hL hB close
    refine V.loop (α := Nat) (fun c => [(8, .slice la al.length lc), (18, dv), (19, ev), (25, ptr v2), (27, .int .i64 (i : Int)), (28, .int .i64 (c : Int))])
      (fun c w' => c ≤ 2 ∧ DkS w0.heap.size w0 w' d (1048576 : Int).toNat (volS (vnm 5) (vhd 5 ++ flat Ks) []) (sameF3 v2 m2 vv d m j Rs New Ks lv' la lc al dv ev (2 * al.length) G)) (fun c => 2 - c) 0 ⟨rfl, rfl, rfl, rfl, rfl, rfl, trivial⟩ ⟨Nat.zero_le _, hD⟩ ?_
    clear hD
    rintro c w ⟨hc, hD⟩
    obtain ⟨dL, hL, hB, close⟩ := hD.open
    rw [sameF3] at hL
    by_cases hcl : c < 2
    case neg =>
      repeat (first | (refine RunH ?_; intro w hL hB; try clear w) | (refine Both.mk ?_ ?_ <;> conv => whnf) | fail)
      exact ⟨i + 1, ⟨rfl, rfl, rfl, rfl, vint (by push_cast; omega), trivial⟩, ⟨by omega, hD⟩, (by first | omega | (dsimp only; omega))⟩
    have hm := hal _ (List.getElem_mem hil)
    have hx : al[i]? = some al[i] := List.getElem?_eq_getElem hil
    generalize hq : al[i] = q at *
    obtain ⟨qk, qc, qd, qv, ql⟩ := q
    obtain ⟨mk, mc, msl, mln⟩ := hm
    dsimp only at mk mc msl mln
    obtain ⟨hk1, hc1⟩ := at_half (c := c) hx hcl
    dsimp only at hk1 hc1
    have htl : 2 * i + c < G.length := by omega
    have hgt : G[2 * i + c]? = some G[2 * i + c] := List.getElem?_eq_getElem htl
    have hgm := List.getElem_mem htl
    have hgd : (G[2 * i + c]).2 = gotDt (winM m0 (Rs ++ New)) al (2 * i + c) := by
      have h1 : (G.map (·.2))[2 * i + c]? = some (G[2 * i + c]).2 := by rw [List.getElem?_map, hgt]; rfl
      rw [hG2, List.getElem?_map, List.getElem?_range (by omega)] at h1
      injection h1 with h1
      exact h1.symm
    have hgo := hG3 _ hgm
    have hgv : (G.map (·.1))[2 * i + c]? = some (G[2 * i + c]).1 := by rw [List.getElem?_map, hgt]; rfl
    generalize G[2 * i + c] = g at *
    have hev := eVals_get (M := winM m0 (Rs ++ New)) (al := al) (n := 2 * al.length) (t := 2 * i + c) (by omega)
    have hgE : gotE (winM m0 (Rs ++ New)) al (2 * i + c) = wgetE (winM m0 (Rs ++ New)) qk ((qc + c) % 4294967296) := by rw [gotE, hk1, hc1]
    have hgD : gotDt (winM m0 (Rs ++ New)) al (2 * i + c) = gotD (winM m0 (Rs ++ New)) qk ((qc + c) % 4294967296) := by rw [gotDt, hk1, hc1]
    rw [hgE] at hev
    rw [hgD] at hgd
    obtain ⟨bb, o, rfl, _⟩ := elem (i := 5) hL rfl i hil
    obtain ⟨da, dc, rfl⟩ := (show SlN w 1 dv (2 * al.length) _ from hL.rowN (i := 6) rfl).shape
    obtain ⟨ea, ec, rfl⟩ := (show SlN w 1 ev (2 * al.length) _ from hL.rowN (i := 7) rfl).shape
    obtain ⟨db, do_, rfl, _⟩ := (show SlN w 1 (.slice da (2 * al.length) dc) (2 * al.length) _ from hL.rowN (i := 6) rfl).addr (by omega)
    obtain ⟨eb, eo, rfl, _⟩ := (show SlN w 1 (.slice ea (2 * al.length) ec) (2 * al.length) _ from hL.rowN (i := 7) rfl).addr (by omega)
    have rowC : ∀ x, Sep Tryz.prog w0.heap.size w0 x [.row 42 4 (.slice (some ⟨bb, o, none⟩) al.length lc) al.length (al.flatMap inC)] → Row x bb o (al.flatMap inC) := fun x hx => (hx.rowN (i := 0) rfl).rowOf
    repeat (first | (refine RunK ?_; intro w hL hB; try clear w) | (refine V.tree ttOk (fun x0 => Sep Tryz.prog _ w0 x0 [.row 42 4 (.slice (some ⟨bb, o, none⟩) al.length lc) al.length (al.flatMap inC)]) (.q 0 (.q 1 (.q 2 (.q 3 (.q 4 (.q 5 (.q 6 (.q 7 (.q 8 (.q 9 (.q 10 (.q 11 (.q 12 (.q 13 (.alt 14 (.q 15 (.q 16 (.q 17 (.q 18 (.q 19 .nil))))) .stop))))))))))))))) mixed (by decide +kernel) (hL.drew.one (i := 5) rfl) ?_; replace hL := hL.drew; conv => whnf) | (refine V.tailA ttOk mixed (by decide +kernel) ?_; replace hL := hL.drew; conv => whnf) | (refine Both.mk ?_ ?_ <;> conv => whnf) | fail)
    intro o1 ho1
    conv => whnf
    repeat (first | (refine RunH ?_; intro w hL hB; try clear w) | (refine Both.mk ?_ ?_ <;> conv => whnf) | fail)
    refine Lq.of_class (fun x hx' => Ld.rowF ttOk (f := inC) inC_len 0 (rowC x hx') (ss := al) (o := o) (o' := o1 + 0) (k := i) tl38 rfl hx rfl (by omega) rfl) ?_
    conv => whnf
    repeat (first | (refine RunH ?_; intro w hL hB; try clear w) | (refine Both.mk ?_ ?_ <;> conv => whnf) | fail)
    intro o2 ho2
    conv => whnf
    repeat (first | (refine RunH ?_; intro w hL hB; try clear w) | (refine Both.mk ?_ ?_ <;> conv => whnf) | fail)
    refine Lq.of_class (fun x hx' => Ld.rowF ttOk (f := inC) inC_len 1 (rowC x hx') (ss := al) (o := o) (o' := o2 + 1) (k := i) tl39 rfl hx rfl (by omega) rfl) ?_
    conv => whnf
    repeat (first | (refine RunH ?_; intro w hL hB; try clear w) | (refine Both.mk ?_ ?_ <;> conv => whnf) | (refine Ar.m32 (qc + c) (by push_cast; rfl) ?_; conv => whnf) | fail)
    refine (vgetU_fn hn qk ((qc + c) % 4294967296) mk hokK (by omega) (close (F' := _ :: _ :: _ :: _ :: _ :: _ :: _ :: _ :: G.map gvRes) hL hB)).mono fun r w ⟨u, hr, hD⟩ => ?_
    clear hL hB close
    subst hr
    rw [hwin] at hD ⊢
    obtain ⟨dL, hL, hB, close⟩ := hD.open
    rw [gvRes] at hL
    dsimp only at hL
    obtain ⟨ua, uc, rfl⟩ := (show SlN w 1 u _ _ from hL.rowN (i := 0) rfl).shape
    conv => whnf
    refine ⟨hL.one (i := 6) rfl, ?_⟩
    conv => whnf
    repeat (first | (refine RunH ?_; intro w hL hB; try clear w) | (refine Both.mk ?_ ?_ <;> conv => whnf) | fail)
    intro o3 ho3
    conv => whnf
    refine Ld.row1 ttOk (show SlN w 1 (.slice (some ⟨eb, eo, none⟩) (2 * al.length) ec) (2 * al.length) _ from hL.rowN (i := 8) rfl).rowOf tl23 rfl (k := 2 * i + c) hev (by omega) ?_
    generalize wgetE (winM m0 (Rs ++ New)) qk ((qc + c) % 4294967296) = E at *
    conv => whnf
    repeat (first | (refine RunH ?_; intro w hL hB; try clear w) | (refine Both.mk ?_ ?_ <;> conv => whnf) | fail)
    intro o4 ho4
    conv => whnf
    repeat (first | (refine RunH ?_; intro w hL hB; try clear w) | (refine Both.mk ?_ ?_ <;> conv => whnf) | fail)
    refine Ld.row1 ttOk (show SlN w 1 (.slice (some ⟨db, do_, none⟩) (2 * al.length) dc) (2 * al.length) _ from hL.rowN (i := 7) rfl).rowOf tl40 rfl (k := 2 * i + c) hgv (by omega) ?_
    obtain ⟨g1, g2⟩ := g
    dsimp only at hgd hgo
    subst hgd
    conv => whnf
    repeat (first | (refine RunH ?_; intro w hL hB; try clear w) | (refine Both.mk ?_ ?_ <;> conv => whnf) | fail)
    have hgin : gvRes (g1, gotD (winM m0 (Rs ++ New)) qk ((qc + c) % 4294967296)) ∈ G.map gvRes ++ dL := List.mem_append_left _ (List.mem_map_of_mem hgm)
    have hgs : Sl w g1 (bv (gotD (winM m0 (Rs ++ New)) qk ((qc + c) % 4294967296))) := Sl.of_own (show w.ownsRow 0 5 1 _ _ _ from hL.hold (gvRes (g1, gotD (winM m0 (Rs ++ New)) qk ((qc + c) % 4294967296))) (.tail _ (.tail _ (.tail _ (.tail _ (.tail _ (.tail _ (.tail _ (.tail _ (.tail _ hgin))))))))))
    refine (same_fn _ _ _ _ _ (hL.row (i := 0) rfl) hgs).mono fun r w ⟨hr, hw⟩ => ?_
    subst hr
    replace hL := hL.call hB (Turns.of_below hw)
    replace hB := Nat.le_trans hB hw.size
    rw [decide_eq_true rfl]
    conv => whnf
    repeat (first | (refine RunH ?_; intro w hL hB; try clear w) | (refine Both.mk ?_ ?_ <;> conv => whnf) | fail)
    exact ⟨c + 1, ⟨rfl, rfl, rfl, rfl, rfl, vint (by push_cast; omega), trivial⟩, ⟨by omega, (close (F' := _ :: sameF3 v2 m2 vv d m j Rs New Ks lv' _ lc al _ _ (2 * al.length) G) hL hB).tl⟩, (by first | omega | (dsimp only; omega))⟩)
end Go.Proofs.YtladfadcgfdbfaaGreatDoor
namespace Go.Proofs.YtladfadcgfdbfaaGreatDoor
open Go.RowKit
set_option linter.unusedVariables false
set_option linter.unusedSimpArgs false
theorem bulk_pos {H : Type} (d : DataW H) : 1 ≤ Rows.uptoBulk d := by
  cases d with
  | lit l => cases l <;> simp [Rows.uptoBulk]
  | _ => simp [Rows.uptoBulk]
theorem bulk_len {H : Type} : ∀ ds : List (DataW H), ds.length ≤ Rows.uptoBulkAll ds
  | [] => by simp [Rows.uptoBulkAll]
  | d :: ds => by
    have h1 := bulk_pos d
    have h2 := bulk_len ds
    simp only [List.length_cons, Rows.uptoBulkAll]
    omega
theorem bulk_mem {H : Type} : ∀ {ds : List (DataW H)} {d : DataW H}, d ∈ ds → Rows.uptoBulk d ≤ Rows.uptoBulkAll ds
  | e :: ds, d, h => by
    simp only [Rows.uptoBulkAll]
    rcases List.mem_cons.1 h with rfl | h
    · omega
    · have := bulk_mem h; omega
theorem bulk_at {H : Type} {ds gs : List (DataW H)} (h : Rows.uptoSmall H (ds ++ gs) = true) {j : Nat} {d : DataW H} (hj : ds[j]? = some d) : Rows.uptoBulk d ≤ 1048576 := by
  have h1 : Rows.uptoBulkAll (ds ++ gs) ≤ 1048576 := of_decide_eq_true h
  exact Nat.le_trans (bulk_mem (List.mem_append_left _ (List.mem_of_getElem? hj))) h1
theorem slice_bulk {H : Type} {enc : TypeId × Value → H} {P : Program} {w : World} {t e : TypeId} {a : Option Addr} {n c : Nat} {d : DataW H} {ps : List MemPlace} (hu : P.underlying t = some (.slice e))
    (h : DataW.Trod enc P w 0 (fun _ => true) true t (.slice a n c) d ps) : n ≤ Rows.uptoBulk d := by
  obtain ⟨fuel, h⟩ := h
  cases fuel with
  | zero => simp [DataW.trod] at h
  | succ fuel =>
    have hc : (Value.slice a n c).cells.toList = [.slice a n c] := rfl
    rw [hc] at h
    cases a with
    | none =>
      cases n with
      | zero => exact Nat.zero_le _
      | succ n => simp [DataW.trod, hu] at h
    | some a =>
      simp only [DataW.trod, hu] at h
      split at h
      case isFalse => cases h
      cases h1 : (List.range n).mapM (fun i => (w.cells? 0 (a.add (i * P.cellsOf e)) (P.cellsOf e)).bind (DataW.trod enc P w 0 (fun _ => true) true fuel e)) with
      | none => rw [h1] at h; simp at h
      | some elems =>
        rw [h1] at h
        simp only [Option.bind_some, if_true] at h
        cases h2 : (List.range (c - n)).mapM (fun j => (w.cells? 0 (a.add ((n + j) * P.cellsOf e)) (P.cellsOf e)).bind (DataW.trod enc P w 0 (fun _ => true) true fuel e)) with
        | none => rw [h2] at h; simp at h
        | some rest =>
          rw [h2] at h
          simp only [Option.map_some, Option.some.injEq, Prod.mk.injEq] at h
          obtain ⟨h, _⟩ := h
          subst h
          obtain ⟨l1, _⟩ := mapM_mem h1
          simp only [List.length_range] at l1
          have := bulk_len (elems.map (·.1))
          rw [List.length_map, l1] at this
          simp only [Rows.uptoBulk]
          omega
theorem slice_small {H : Type} {enc : TypeId × Value → H} {P : Program} {w w' : World} {t e : TypeId} {a : Option Addr} {n c sz m : Nat} {xs : List Value} {d : DataW H} {ps : List MemPlace} (hs : SlN w' sz (.slice a n c) m xs) (hu : P.underlying t = some (.slice e))
    (h : DataW.Trod enc P w 0 (fun _ => true) true t (.slice a n c) d ps) (hb : Rows.uptoBulk d ≤ 1048576) : m ≤ 1048576 := by
  obtain ⟨a', c', he⟩ := hs.shape
  injection he with h1 h2 h3
  have := slice_bulk hu h
  omega
end Go.Proofs.YtladfadcgfdbfaaGreatDoor
