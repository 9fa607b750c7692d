/- wal, plain: whole files are opened. wal, plain: a disk that holds one log alone is opened. Nothing is claimed here. -/
import Derived.Test.YtjafamiaahabgaaGreatDoorK15
import Derived.Test.YtjafamiaahabgaaGreatDoorK18
namespace Go.Proofs.YtjafamiaahabgaaGreatDoor
open Go.RowKit Go.Lib
set_option linter.unusedVariables false
set_option linter.unusedSimpArgs false
set_option maxRecDepth 100000

theorem rdW_whole {n : Nat} {xs : List (List UInt8)} (hx : ∀ x ∈ xs, x.length ≤ 1048566) (hn : n + xs.length < 18446744073709551616) : rdW ((recsW n xs).length + 1) n (recsW n xs) = (xs, lenW n xs) := by
  have hl := recsW_len n xs
  have hg := lenW_ge n xs
  have h := rdW_recs xs n ((recsW n xs).length + 1 - xs.length) [] hx hn
  rw [List.append_nil, rdW_nil, List.append_nil, Nat.add_zero, show (recsW n xs).length + 1 - xs.length + xs.length = (recsW n xs).length + 1 by omega] at h
  exact h
/-- a whole file that comes next is read -/
theorem open_whole {pre : ByteArray} {G : List Wg} {af : Nat} {S : List Fl} {g : Wg × Nat} (hG : G = [] ∨ g.1.first = af) (hf : 1 ≤ g.1.first ∧ g.1.first ≤ 99999999) (hx : ∀ x ∈ g.1.es, x.length ≤ 1048566) (hn : g.1.es.length ≤ 1000000000) (hs : getS S (wnm pre g.1.first) = some (fileW pre g)) :
    openStep pre ⟨G, af, S, true⟩ (wnm pre g.1.first) = ⟨G ++ [⟨g.1.first, g.1.es, true⟩], g.1.next, S, true⟩ := by
  have hd : fileD S (wnm pre g.1.first) = recsW g.1.first g.1.es := by rw [fileD, hs]; rfl
  have hr := rdW_whole (n := g.1.first) hx (by omega)
  rw [openStep, numG_wnm hf.2]
  simp only [if_true]
  rw [readG, if_neg (by
    rintro (h | ⟨h1, h2⟩)
    · omega
    · rcases hG with h | h
      · exact h1 h
      · exact h2 h)]
  dsimp only
  rw [hd, hr]
  dsimp only
  rw [if_pos (recsW_len _ _).symm]
  rfl
/-- segments that follow one another, from a number on -/
def chW : Nat → List (Wg × Nat) → Prop
  | _, [] => True
  | n, g :: gs => g.1.first = n ∧ chW g.1.next gs
def lastN : Nat → List (Wg × Nat) → Nat
  | n, [] => n
  | _, g :: gs => lastN g.1.next gs
structure OkG (pre : ByteArray) (S : List Fl) (g : Wg × Nat) : Prop where
  first : 1 ≤ g.1.first ∧ g.1.first ≤ 99999999
  small : ∀ x ∈ g.1.es, x.length ≤ 1048566
  len : g.1.es.length ≤ 1000000000
  file : getS S (wnm pre g.1.first) = some (fileW pre g)
theorem open_fold {pre : ByteArray} {S : List Fl} : ∀ (H : List (Wg × Nat)) (G : List Wg) (af : Nat), chW af H → (∀ g ∈ H, OkG pre S g) →
    (H.map fun g => wnm pre g.1.first).foldl (openStep pre) ⟨G, af, S, true⟩ = ⟨G ++ H.map (fun g => ⟨g.1.first, g.1.es, true⟩), lastN af H, S, true⟩
  | [], G, af, _, _ => by simp [lastN]
  | g :: H, G, af, hc, hk => by
    obtain ⟨h1, h2⟩ := hc
    have k := hk g (List.mem_cons_self ..)
    rw [List.map_cons, List.foldl_cons, open_whole (.inr h1) k.first k.small k.len k.file, open_fold H _ _ h2 (fun q hq => hk q (List.mem_cons_of_mem _ hq))]
    simp [lastN]
/-- the first segment may begin anywhere -/
theorem open_fold0 {pre : ByteArray} {S : List Fl} {g : Wg × Nat} {H : List (Wg × Nat)} (af : Nat) (hc : chW g.1.next H) (hk : ∀ q ∈ g :: H, OkG pre S q) :
    ((g :: H).map fun g => wnm pre g.1.first).foldl (openStep pre) ⟨[], af, S, true⟩ = ⟨(g :: H).map (fun g => ⟨g.1.first, g.1.es, true⟩), lastN g.1.next H, S, true⟩ := by
  have k := hk g (List.mem_cons_self ..)
  rw [List.map_cons, List.foldl_cons, open_whole (.inl rfl) k.first k.small k.len k.file, open_fold H _ _ hc (fun q hq => hk q (List.mem_cons_of_mem _ hq))]
  simp
end Go.Proofs.YtjafamiaahabgaaGreatDoor
namespace Go.Proofs.YtjafamiaahabgaaGreatDoor
open Go.RowKit Go.Lib
set_option linter.unusedVariables false
set_option linter.unusedSimpArgs false
set_option maxRecDepth 100000

theorem getS_W {pre : ByteArray} : ∀ {H : List (Wg × Nat)} {g : Wg × Nat}, (∀ q ∈ H, q.1.first ≤ 99999999) → (H.Pairwise fun a b => a.1.first < b.1.first) → g ∈ H → getS (H.map (fileW pre)) (wnm pre g.1.first) = some (fileW pre g)
  | q :: H, g, hf, hr, hg => by
    rw [List.map_cons, getS, show (fileW pre q).nm = wnm pre q.1.first from rfl]
    rcases List.mem_cons.1 hg with rfl | hg
    · rw [if_pos rfl]
    · have h1 := (List.pairwise_cons.1 hr).1 g hg
      rw [if_neg]
      · exact getS_W (fun x hx => hf x (List.mem_cons_of_mem _ hx)) (List.pairwise_cons.1 hr).2 hg
      · intro h
        have := wnm_inj (hf q (List.mem_cons_self ..)) (hf g (List.mem_cons_of_mem _ hg)) h
        omega
/-- a whole log, opened -/
theorem openG_whole {pre : ByteArray} {g : Wg × Nat} {H : List (Wg × Nat)} (hc : chW g.1.next H) (hr : (g :: H).Pairwise fun a b => a.1.first < b.1.first) (hf : ∀ q ∈ g :: H, 1 ≤ q.1.first ∧ q.1.first ≤ 99999999) (hx : ∀ q ∈ g :: H, (∀ x ∈ q.1.es, x.length ≤ 1048566) ∧ q.1.es.length ≤ 1000000000) :
    openG pre ((g :: H).map (fileW pre)) = ⟨(g :: H).map (fun g => ⟨g.1.first, g.1.es, true⟩), lastN g.1.next H, (g :: H).map (fileW pre), true⟩ := by
  have hn := names_W (pre := pre) (H := g :: H) (fun q hq => (hf q hq).2) (hr.imp fun h => Nat.le_of_lt h)
  rw [openG, hn, List.map_map]
  have he : ((fun x => (⟨x.toArray⟩ : ByteArray)) ∘ fun g : Wg × Nat => nmB (wnm pre g.1.first)) = fun g => wnm pre g.1.first := by
    funext q
    simp [nmB]
  rw [he]
  exact open_fold0 1 hc fun q hq => ⟨hf q hq, (hx q hq).1, (hx q hq).2, getS_W (fun x hx => (hf x hx).2) hr hq⟩
end Go.Proofs.YtjafamiaahabgaaGreatDoor
