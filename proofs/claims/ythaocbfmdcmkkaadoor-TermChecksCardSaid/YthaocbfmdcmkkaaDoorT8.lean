/- Walks: Size, Depth, Check, Pure. -/
import Derived.Test.YthaocbfmdcmkkaaDoorT7
set_option linter.unusedVariables false
namespace Go.Proofs.YthaocbfmdcmkkaaDoor.K
open Go.RowKit Go.Shelf
attribute [local go_sem] Oper.semAt_some

set_option maxHeartbeats 1000000 in
set_option maxRecDepth 100000 in
theorem size_calls (t : Tm) (A : Option Addr) (c : Nat) (w : World) (hM : t.size ≤ 1000000) (hs : Subs w 0 A t.sub) :
    Calls Tryd.prog 18 #[tv t A c] w fun e w' => e = .returned (.int .i64 t.size) ∧ Ext w w' := by
  refine (callsIn_wide (n := 5)).1 ?_
  refine callsIn_of_wp_marks Tryd.func18 rfl trivial ?_ rfl
  simp only [Tryd.ntmps18, List.size_toArray, List.length_cons, List.length_nil, Nat.reduceAdd, Nat.reduceSub, Array.replicate_succ, Array.replicate_zero, List.push_toArray, List.append_toArray, List.nil_append, List.cons_append]
  gi_wp2_with ((try refine ⟨trivial, ?_⟩); (try refine ⟨hdd _, ?_⟩); gi_at_call 38; refine (callsIn_wide.2 (nodes_calls t A c _)).mono ?_; rintro e w' ⟨rfl, rfl⟩)
  refine range_nodes (w₀ := w) (n := 3) t A c (w.heap.size + 2) rfl ?hbt ?hw hs hM (fun _ => True) (fun _ _ => trivial)
    (fun pre W => W.heap[w.heap.size + 1]? = some (.cells #[.int .i64 pre.length] 3 (0, 0))) (fun _ _ => False) ?hI (fun _ _ _ h => h.elim) ?h0 ?body ?done ?stop
  case hbt => exact heap_new' (by simp)
  case hw => exact (((Ext.refl w).alloc _).alloc _).alloc _
  case hI => exact fun pre W W' h hk => (hk _ (by omega) (by simp)).trans h
  case h0 => exact ((Ext.refl _).alloc _).heap (heap_new' (by simp))
  case body =>
    rintro l pre x A' c' W - hlen hx hz hs' hi
    have hc := heap_cell hi 0
    have hf := heap_frozen hi 0
    simp only [List.getElem?_toArray, List.getElem?_cons_zero] at hc
    gi_wp2
    exact ⟨(Keep.refl _ _ _).set (by simp) (by simp) _, by show _ = _; rw [heap_set1 hi]; simp⟩
  case done =>
    intro D W hD hi hx hk
    have hc := heap_cell hi 0
    simp only [List.getElem?_toArray, List.getElem?_cons_zero] at hc
    gi_wp2
    refine ⟨by simp, .inl ⟨_, _, rfl, run_takeDeferred hk, ?_⟩⟩
    refine ⟨_, results_tmp rfl _ _ _, ?_, hx.put (by simp at hD; omega) _⟩
    rw [← t.nodes_length]; rfl
  case stop =>
    intro D pre W _ _ h
    exact h.elim
end Go.Proofs.YthaocbfmdcmkkaaDoor.K
