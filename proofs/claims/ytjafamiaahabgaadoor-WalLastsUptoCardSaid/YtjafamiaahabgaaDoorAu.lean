/- wal, plain: a disk that holds one log alone is opened. Nothing is claimed here. -/
import Derived.Test.YtjafamiaahabgaaDoorAt
namespace Go.Proofs.YtjafamiaahabgaaDoor
open Go.RowKit Go.Lib
set_option linter.unusedVariables false
set_option linter.unusedSimpArgs false
set_option maxRecDepth 100000

theorem getS_W {pre : ByteArray} : ∀ {H : List (Wg × Nat)} {g : Wg × Nat}, (∀ q ∈ H, q.1.first ≤ 99999999) → (H.Pairwise fun a b => a.1.first < b.1.first) → g ∈ H → getS (H.map (fileW pre)) (wnm pre g.1.first) = some (fileW pre g)
  | q :: H, g, hf, hr, hg => by
    rw [List.map_cons, getS, show (fileW pre q).nm = wnm pre q.1.first from rfl]
    rcases List.mem_cons.1 hg with rfl | hg
    · rw [if_pos rfl]
    · have h1 := (List.pairwise_cons.1 hr).1 g hg
      rw [if_neg]
      · exact getS_W (fun x hx => hf x (List.mem_cons_of_mem _ hx)) (List.pairwise_cons.1 hr).2 hg
      · intro h
        have := wnm_inj (hf q (List.mem_cons_self ..)) (hf g (List.mem_cons_of_mem _ hg)) h
        omega
/-- a whole log, opened -/
theorem openG_whole {pre : ByteArray} {g : Wg × Nat} {H : List (Wg × Nat)} (hc : chW g.1.next H) (hr : (g :: H).Pairwise fun a b => a.1.first < b.1.first) (hf : ∀ q ∈ g :: H, 1 ≤ q.1.first ∧ q.1.first ≤ 99999999) (hx : ∀ q ∈ g :: H, (∀ x ∈ q.1.es, x.length ≤ 1048566) ∧ q.1.es.length ≤ 1000000000) :
    openG pre ((g :: H).map (fileW pre)) = ⟨(g :: H).map (fun g => ⟨g.1.first, g.1.es, true⟩), lastN g.1.next H, (g :: H).map (fileW pre), true⟩ := by
  have hn := names_W (pre := pre) (H := g :: H) (fun q hq => (hf q hq).2) (hr.imp fun h => Nat.le_of_lt h)
  rw [openG, hn, List.map_map]
  have he : ((fun x => (⟨x.toArray⟩ : ByteArray)) ∘ fun g : Wg × Nat => nmB (wnm pre g.1.first)) = fun g => wnm pre g.1.first := by
    funext q
    simp [nmB]
  rw [he]
  exact open_fold0 1 hc fun q hq => ⟨hf q hq, (hx q hq).1, (hx q hq).2, getS_W (fun x hx => (hf x hx).2) hr hq⟩
end Go.Proofs.YtjafamiaahabgaaDoor
