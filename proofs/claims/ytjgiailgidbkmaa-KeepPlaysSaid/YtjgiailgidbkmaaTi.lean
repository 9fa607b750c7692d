/- garnerref4.Disk: Copy. Nothing is claimed here. -/
import Derived.Test.YtjgiailgidbkmaaTh
namespace Go.Proofs.Ytjgiailgidbkmaa
open Go.RowKit
set_option linter.unusedVariables false
set_option linter.unusedSimpArgs false
set_option maxRecDepth 100000

theorem fl_names' (fs : List Fv) : fs.map (·.nm) = (fs.map Fv.fl).map (·.nm) := by rw [List.map_map]; rfl
theorem OkF.of_fl' {room : Nat} {fs fs2 : List Fv} (h : OkF room fs) (hp : (fs2.map Fv.fl).Perm (fs.map Fv.fl)) : OkF room fs2 := by
  have hm : ∀ g ∈ fs2, ∃ f ∈ fs, f.fl = g.fl := fun g hg => by
    have := hp.mem_iff.1 (List.mem_map_of_mem (f := Fv.fl) hg)
    simpa using this
  have ht : Go.Proofs.Ytjgiailgidbkmaa.tot fs2 = Go.Proofs.Ytjgiailgidbkmaa.tot fs := by
    rw [← tot_fl, ← tot_fl]
    exact (hp.map (fun f : Fl => f.d.length)).sum_nat
  refine ⟨?_, ?_, by rw [ht]; exact h.tot, h.room, ?_, ?_⟩
  · rw [fl_names']
    have := h.nd
    rw [fl_names'] at this
    exact (hp.map _).nodup_iff.2 this
  · intro g hg
    obtain ⟨f, hf, he⟩ := hm g hg
    have h1 := h.la f hf
    have e1 : f.la = g.la := congrArg Fl.la he
    have e2 : f.d = g.d := congrArg Fl.d he
    rw [← e1, ← e2]; exact h1
  · intro g hg
    obtain ⟨f, hf, he⟩ := hm g hg
    have h1 := h.nm f hf
    have e1 : f.nm = g.nm := congrArg Fl.nm he
    rw [← e1]; exact h1
  · have := hp.length_eq
    simp at this
    rw [this]; exact h.len
theorem arr2 {α : Type} {g c x b l : α} {X Y F : List α} : (g :: c :: x :: b :: l :: (Y ++ (X ++ F))).Perm (c :: x :: b :: l :: (Y ++ ((X ++ [g]) ++ F))) := by
  have h1 := (List.perm_middle (a := g) (l₁ := c :: x :: b :: l :: (Y ++ X)) (l₂ := F)).symm
  simpa using h1
theorem arr {α : Type} {c x b l : α} {X Y F : List α} : (c :: x :: (X ++ (b :: l :: (Y ++ F)))).Perm (c :: x :: b :: l :: (Y ++ (X ++ F))) := by
  refine .cons _ (.cons _ ?_)
  have h1 : (X ++ (b :: l :: (Y ++ F))).Perm ((b :: l :: (Y ++ F)) ++ X) := List.perm_append_comm
  refine h1.trans ?_
  simp only [List.cons_append, List.append_assoc]
  exact .cons _ (.cons _ (List.perm_append_comm.append_left Y))
end Go.Proofs.Ytjgiailgidbkmaa
