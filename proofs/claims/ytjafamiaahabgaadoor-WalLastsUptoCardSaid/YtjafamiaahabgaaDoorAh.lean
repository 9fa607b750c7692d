/- wal: Open. Nothing is claimed here. -/
import Derived.Test.YtjafamiaahabgaaDoorAg
namespace Go.Proofs.YtjafamiaahabgaaDoor
open Go.RowKit Go.Lib
set_option linter.unusedVariables false
set_option linter.unusedSimpArgs false
set_option maxRecDepth 100000

def openG (pre : ByteArray) (S : List Fl) : Ost := ((names S).map fun x => (⟨x.toArray⟩ : ByteArray)).foldl (openStep pre) ⟨[], 1, S, true⟩
theorem fileD_len {S : List Fl} {nm : ByteArray} : (fileD S nm).length ≤ 1073741824 → ∀ {f n : Nat}, (rdW f n (fileD S nm)).1.length ≤ 1073741824 := fun h f n => by
  have h1 := rdW_len f n (fileD S nm)
  have h2 := lenW_ge n (rdW f n (fileD S nm)).1
  omega
theorem readG_af {pre : ByteArray} {o : Ost} {n : Nat} (hn : n ≤ 99999999) (h : (fileD o.S (wnm pre n)).length ≤ 1073741824) (ha : o.af ≤ 4000000000) : (readG pre o n).af ≤ 4000000000 ∧ (readG pre o n).G.length ≤ o.G.length + 1 := by
  unfold readG
  have h1 := @fileD_len _ _ h ((fileD o.S (wnm pre n)).length + 1) n
  split
  · exact ⟨ha, by dsimp only; omega⟩
  dsimp only
  split
  · exact ⟨by dsimp only; omega, by simp⟩
  split
  · exact ⟨ha, by dsimp only; omega⟩
  · exact ⟨by dsimp only; omega, by simp⟩
theorem DkS.nmLe {B : Nat} {w0 w : World} {b room : Nat} {S : List Fl} {F : List Res} (h : DkS B w0 w b room S F) : ∀ x ∈ names S, x.length ≤ 64 := by
  obtain ⟨mo, fs, rfl, hok, _⟩ := h.of
  intro x hx
  have := (names_perm (fs.map Fv.fl)).mem_iff.1 hx
  obtain ⟨f, hf, rfl⟩ := List.mem_map.1 this
  obtain ⟨g, hg, rfl⟩ := List.mem_map.1 hf
  have h1 := (hok.nm g hg).2
  have e : (nmB g.nm).length = g.nm.size := Array.length_toList
  show (nmB g.nm).length ≤ 64
  omega
theorem DkS.lenLe {B : Nat} {w0 w : World} {b room : Nat} {S : List Fl} {F : List Res} (h : DkS B w0 w b room S F) : S.length ≤ 256 := by
  obtain ⟨mo, fs, rfl, hok, _⟩ := h.of
  rw [List.length_map]; exact hok.len
set_option maxHeartbeats 4000000 in
theorem logOpen_fn {B d room : Nat} {pre : ByteArray} {S : List Fl} {F : List Res} (hp : 1 ≤ pre.size ∧ pre.size ≤ 55) {w0 w : World} (ht : TabW B w0) (hD : DkS B w0 w d room S F) :
    Fn Tryd.prog 5 #[.pointer (some ⟨d, 0, none⟩), .string pre] w fun r w' => ∃ l, r = .tuple #[.pointer (some ⟨l, 0, none⟩), .int .i64 0] ∧ LgS B w0 w' d l pre room (openG pre S).S (openG pre S).G (openG pre S).af F := by
  have hnl := hD.nmLe
  have hsl := hD.lenLe
  obtain ⟨dL, hL, hB, close⟩ := hD.open
  clear hD
  refine Fn.mk Tryd.func5 rfl (by kernel_rfl) Tryd.ntmps5 rfl (by rw [Tryd.results5]) ?_
  repeat (first | (refine RunH ?_; intro w hL hB; try clear w) | (refine Both.mk ?_ ?_ <;> conv => whnf) | fail)
  (refine Nw.sep hL hB (fun l w hL hB hl => ?_); conv => whnf)
  repeat (first | (refine RunH ?_; intro w hL hB; try clear w) | (refine Both.mk ?_ ?_ <;> conv => whnf) | fail)
  refine (list_fn (close (F' := .blk l [.pointer (some ⟨d, 0, none⟩), .string pre, .slice none 0 0, .int .i64 1] 47 :: F) hL hB)).mono fun r w hD => ?_
  clear hL hB close
  obtain ⟨na, nc, rfl⟩ : ∃ a c, r = .slice a S.length c := by
    obtain ⟨dL, hL, hB, close⟩ := hD.open
    exact (show SlN w 1 r S.length _ from hL.rowN (i := 0) rfl).shape
  obtain ⟨o, ho⟩ : ∃ o : Nat → Ost, o = fun i => (((names S).map fun x => (⟨x.toArray⟩ : ByteArray)).take i).foldl (openStep pre) ⟨[], 1, S, true⟩ := ⟨_, rfl⟩
  have hnlen : (names S).length = S.length := names_len S
  have ho0 : o 0 = ⟨[], 1, S, true⟩ := by rw [ho]; simp
  have hoE : o S.length = openG pre S := by rw [ho, openG]; dsimp only; rw [List.take_of_length_le (by simp [hnlen])]
  have hoS : ∀ i (h : i < (names S).length), o (i + 1) = openStep pre (o i) ⟨((names S)[i]).toArray⟩ := fun i h => by
    rw [ho]; dsimp only
    rw [List.take_succ_eq_append_getElem (by simpa using h), List.foldl_append]
    simp
  have hG : LgS B w0 w d l pre room (o 0).S (o 0).G (o 0).af (.row 9 1 (.slice na S.length nc) S.length ((names S).map encStr) :: F) := by
    rw [ho0]
    exact ⟨.no, [], rfl, rfl, hD.perm (List.Perm.swap ..)⟩
  clear hD
  conv => whnf
  repeat (first | (refine RunH ?_; intro w hL hB; try clear w) | (refine Both.mk ?_ ?_ <;> conv => whnf) | fail)
  refine V.loop (α := Nat) (fun i => [(0, .pointer (some ⟨d, 0, none⟩)), (6, .pointer (some ⟨l, 0, none⟩)), (7, .bool (o i).good), (29, .slice na S.length nc), (30, .int .i64 (S.length : Int)), (31, .int .i64 (i : Int))])
    (fun i w' => i ≤ S.length ∧ (o i).G.length ≤ i ∧ (o i).af ≤ 4000000000 ∧ LgS B w0 w' d l pre room (o i).S (o i).G (o i).af (.row 9 1 (.slice na S.length nc) S.length ((names S).map encStr) :: F))
    (fun i => S.length - i) 0 ⟨rfl, rfl, by rw [ho0]; rfl, rfl, rfl, rfl, trivial⟩ ⟨Nat.zero_le _, by rw [ho0]; exact Nat.zero_le _, by rw [ho0]; exact (show (1 : Nat) ≤ 4000000000 from by decide), hG⟩ ?_
  clear hG
  intro i w ⟨hi, hgl, haf, hG⟩
  dsimp only
  by_cases hlt : i < S.length
  · have hin : i < (names S).length := by omega
    have hst := hoS i hin
    have hxl := hnl _ (List.getElem_mem hin)
    have hge : ((names S).map encStr)[i]? = some (.string ⟨((names S)[i]).toArray⟩) := by
      rw [List.getElem?_map, List.getElem?_eq_getElem hin]; rfl
    generalize hnm : (⟨((names S)[i]).toArray⟩ : ByteArray) = nm at *
    have hnsz : nm.size ≤ 64 := by rw [← hnm]; exact hxl
    generalize o i = oi at *
    obtain ⟨oG, oaf, oS, og⟩ := oi
    dsimp only at hgl haf hG hst ⊢
    obtain ⟨n, sg, hsg, hok, hD⟩ := hG.of
    replace hD := hD.perm List.perm_middle
    obtain ⟨dL, hL, hB, close⟩ := hD.open
    clear hD
    have back : ∀ {w' : World} {S' : List Fl}, DkS B w0 w' d room S' (.row 9 1 (.slice na S.length nc) S.length ((names S).map encStr) :: (logR l d pre n sg oaf ++ F)) → LgS B w0 w' d l pre room S' oG oaf (.row 9 1 (.slice na S.length nc) S.length ((names S).map encStr) :: F) := fun h => ⟨n, sg, hsg, hok, h.perm List.perm_middle.symm⟩
    obtain ⟨g, gO, rfl, hrow⟩ := (show Sl w (.slice na S.length nc) ((names S).map encStr) from hL.row (i := 0) rfl).addr (by omega)
    repeat (first | (refine RunH ?_; intro w hL hB; try clear w) | (refine Both.mk ?_ ?_ <;> conv => whnf) | fail)
    intro o1 ho1
    conv => whnf
    refine Ld.row1 ttOk hrow rfl rfl hge (by omega) ?_
    conv => whnf
    repeat (first | (refine RunH ?_; intro w hL hB; try clear w) | (refine Both.mk ?_ ?_ <;> conv => whnf) | fail)
    refine (number_fn nm (by omega) (by omega) w (hL.hold (.blk l (logC d pre n sg oaf) 47) (.tail _ (.head _)))).mono fun r w ⟨hr, hw⟩ => ?_
    replace hL := hL.call hB (Turns.of_below hw)
    replace hB := Nat.le_trans hB hw.size
    cases hnu : numG pre nm with
    | none =>
      rw [hnu] at hr
      subst hr
      have e : openStep pre ⟨oG, oaf, oS, og⟩ nm = ⟨oG, oaf, oS, og⟩ := by rw [openStep, hnu]
      rw [e] at hst
      conv => whnf
      repeat (first | (refine RunH ?_; intro w hL hB; try clear w) | (refine Both.mk ?_ ?_ <;> conv => whnf) | fail)
      exact ⟨i + 1, ⟨rfl, rfl, by rw [hst]; rfl, rfl, rfl, vint (by push_cast; omega), trivial⟩, ⟨by omega, by rw [hst]; dsimp only; omega, by rw [hst]; exact haf, by rw [hst]; exact back (close (F' := _ :: (logR l d pre n sg oaf ++ F)) hL hB)⟩, (by first | omega | (dsimp only; omega))⟩
    | some first =>
      rw [hnu] at hr
      subst hr
      have hfl := numG_le hnu
      cases og with
      | false =>
        have e : openStep pre ⟨oG, oaf, oS, false⟩ nm = ⟨oG, oaf, delS oS nm, false⟩ := by rw [openStep, hnu]; rfl
        rw [e] at hst
        conv => whnf
        repeat (first | (refine RunH ?_; intro w hL hB; try clear w) | (refine Both.mk ?_ ?_ <;> conv => whnf) | fail)
        refine (remove_fn nm (by omega) (close (F' := _ :: (logR l d pre n sg oaf ++ F)) hL hB)).mono fun r w ⟨hr, hD⟩ => ?_
        subst hr
        conv => whnf
        repeat (first | (refine RunH ?_; intro w hL hB; try clear w) | (refine Both.mk ?_ ?_ <;> conv => whnf) | fail)
        exact ⟨i + 1, ⟨rfl, rfl, by rw [hst]; rfl, rfl, rfl, vint (by push_cast; omega), trivial⟩, ⟨by omega, by rw [hst]; dsimp only; omega, by rw [hst]; exact haf, by rw [hst]; exact back hD⟩, (by first | omega | (dsimp only; omega))⟩
      | true =>
        have e : openStep pre ⟨oG, oaf, oS, true⟩ nm = readG pre ⟨oG, oaf, oS, true⟩ first := by rw [openStep, hnu]; rfl
        rw [e] at hst
        have hG2 := back (close (F' := _ :: (logR l d pre n sg oaf ++ F)) hL hB)
        have hbd := readG_af (pre := pre) (o := ⟨oG, oaf, oS, true⟩) hfl ((close (F' := _ :: (logR l d pre n sg oaf ++ F)) hL hB).bigD (wnm pre first)) haf
        dsimp only at hbd
        conv => whnf
        repeat (first | (refine RunH ?_; intro w hL hB; try clear w) | (refine Both.mk ?_ ?_ <;> conv => whnf) | fail)
        refine (logRead_fn first hfl hp ht (by omega) haf hG2).mono fun r w ⟨hr, hG⟩ => ?_
        subst hr
        conv => whnf
        repeat (first | (refine RunH ?_; intro w hL hB; try clear w) | (refine Both.mk ?_ ?_ <;> conv => whnf) | fail)
        exact ⟨i + 1, ⟨rfl, rfl, by rw [hst]; rfl, rfl, rfl, vint (by push_cast; omega), trivial⟩, ⟨by omega, by rw [hst]; omega, by rw [hst]; omega, by rw [hst]; exact hG⟩, (by first | omega | (dsimp only; omega))⟩
  · obtain rfl : i = S.length := by omega
    rw [hoE] at hG
    repeat (first | (refine RunH ?_; intro w hL hB; try clear w) | (refine Both.mk ?_ ?_ <;> conv => whnf) | fail)
    refine ⟨l, rfl, ?_⟩
    obtain ⟨n, sg, hsg, hok, hD⟩ := hG.of
    exact ⟨n, sg, hsg, hok, (hD.perm List.perm_middle).tl⟩
end Go.Proofs.YtjafamiaahabgaaDoor
