/- Plain lemmas on substitution. -/
import Derived.Test.YthaocbfmdcmkkaaDoorT9
set_option linter.unusedVariables false
namespace Go.Proofs.YthaocbfmdcmkkaaDoor.K

theorem varsL_cons (t : Tm) (l : List Tm) : varsL (t :: l) = (if t.isVar then [(t.name, t.width)] else []) ++ varsL l := by
  unfold varsL; by_cases h : t.isVar <;> simp [h]
theorem varsL_append (a b : List Tm) : varsL (a ++ b) = varsL a ++ varsL b := by simp [varsL]
theorem timesN_append (n : ByteArray) (a b : List (ByteArray × Int)) : timesN n (a ++ b) = timesN n a + timesN n b := by simp [timesN]
theorem nodeB_var {t : Tm} (h : nodeB t = true) (hk : t.kind = 2) : t.sub = [] := by
  simp only [nodeB, Bool.and_eq_true] at h
  have hp : partsI t.kind = 0 := by rw [hk]; decide
  rw [if_pos hp] at h
  simp only [Bool.and_eq_true] at h
  simpa using h.2.1.1
mutual
theorem size_put (n : ByteArray) (u : Tm) : ∀ t : Tm, (∀ x ∈ t.nodes, nodeB x = true) → (putT n u t).size = t.size + timesN n (varsL t.nodes) * (u.size - 1)
  | ⟨k, w, b, m, l, sub⟩, h => by
    have hu := u.size_pos
    rw [putT]
    simp only [Tm.nodes, varsL_cons, timesN_append]
    by_cases hv : k = 2 ∧ m = n
    · rw [if_pos hv]
      have hs : sub = [] := nodeB_var (h ⟨k, w, b, m, l, sub⟩ (by simp [Tm.nodes])) hv.1
      subst hs
      simp [Tm.isVar, hv.1, hv.2, timesN, nodess, varsL, Tm.size, sizes]; omega
    · rw [if_neg hv]
      have ih := sizes_puts n u sub (fun x hx => h x (by simp only [Tm.nodes]; exact List.mem_cons_of_mem _ hx))
      have hz : timesN n (if (⟨k, w, b, m, l, sub⟩ : Tm).isVar then [(m, w)] else []) = 0 := by
        by_cases hk : k = 2
        · have : ¬ m = n := fun e => hv ⟨hk, e⟩
          simp [Tm.isVar, hk, timesN, this]
        · simp [Tm.isVar, hk, timesN]
      simp only [Tm.size]
      rw [ih, hz, Nat.zero_add]; omega
theorem sizes_puts (n : ByteArray) (u : Tm) : ∀ ts : List Tm, (∀ x ∈ nodess ts, nodeB x = true) → sizes (puts n u ts) = sizes ts + timesN n (varsL (nodess ts)) * (u.size - 1)
  | [], _ => by simp [puts, sizes, nodess, varsL, timesN]
  | t :: ts, h => by
    have h1 := size_put n u t (fun x hx => h x (by simp only [nodess, List.mem_append]; exact .inl hx))
    have h2 := sizes_puts n u ts (fun x hx => h x (by simp only [nodess, List.mem_append]; exact .inr hx))
    simp only [puts, sizes, nodess, varsL_append, timesN_append]
    rw [h1, h2, Nat.add_mul]; omega
end
theorem Wf1.of {t : Tm} {s : List Tm} (h : Wf1 t) : Wf1 ⟨t.kind, t.width, t.bits, t.name, t.low, s⟩ := ⟨h.k0, h.k1, h.w, h.b, h.l, h.n⟩
mutual
theorem okT_put (n : ByteArray) (u : Tm) (hu : OkT u) : ∀ t : Tm, OkT t → OkT (putT n u t)
  | ⟨k, w, b, m, l, sub⟩, h => by
    rw [putT]
    by_cases hv : k = 2 ∧ m = n
    · rw [if_pos hv]; exact hu
    · rw [if_neg hv]
      have ih := okT_puts n u hu sub (fun x hx => h x (by simp only [Tm.nodes]; exact List.mem_cons_of_mem _ hx))
      intro x hx
      simp only [Tm.nodes, List.mem_cons] at hx
      rcases hx with rfl | hx
      · exact Wf1.of (h ⟨k, w, b, m, l, sub⟩ (by simp [Tm.nodes]))
      · exact ih x hx
theorem okT_puts (n : ByteArray) (u : Tm) (hu : OkT u) : ∀ ts : List Tm, (∀ x ∈ nodess ts, Wf1 x) → ∀ x ∈ nodess (puts n u ts), Wf1 x
  | [], _ => by simp [puts, nodess]
  | t :: ts, h => by
    intro x hx
    simp only [puts, nodess, List.mem_append] at hx
    rcases hx with hx | hx
    · exact okT_put n u hu t (fun y hy => h y (by simp only [nodess, List.mem_append]; exact .inl hy)) x hx
    · exact okT_puts n u hu ts (fun y hy => h y (by simp only [nodess, List.mem_append]; exact .inr hy)) x hx
end
theorem checkE_ok {t : Tm} (h : checkE t = 0) : t.size ≤ 400 ∧ t.depth ≤ 60 ∧ (∀ x ∈ t.nodes, nodeB x = true) ∧ clash t.vars = false := by
  unfold checkE at h
  split at h
  · cases h
  · split at h
    · cases h
    · split at h
      · cases h
      · rename_i h1 h2 h3
        refine ⟨by omega, by omega, ?_, by simpa using h3⟩
        have h2' : t.nodes.all nodeB = true := by simpa using h2
        exact List.all_eq_true.1 h2'
end Go.Proofs.YthaocbfmdcmkkaaDoor.K
