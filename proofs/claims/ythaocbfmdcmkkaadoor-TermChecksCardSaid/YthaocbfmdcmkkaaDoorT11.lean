/- Walks: Check. -/
import Derived.Test.YthaocbfmdcmkkaaDoorT10
set_option linter.unusedVariables false set_option linter.unusedSimpArgs false
namespace Go.Proofs.YthaocbfmdcmkkaaDoor.K
open Go.RowKit Go.Shelf
attribute [local go_sem] Oper.semAt_some

mutual
theorem nodes_size : ∀ (t : Tm) (x : Tm), x ∈ t.nodes → x.size ≤ t.size
  | ⟨k, w, b, n, l, sub⟩, x, h => by
    simp only [Tm.nodes, List.mem_cons] at h
    rcases h with rfl | h
    · exact Nat.le_refl _
    · have := nodess_size sub x h; simp only [Tm.size]; omega
theorem nodess_size : ∀ (ts : List Tm) (x : Tm), x ∈ nodess ts → x.size ≤ sizes ts
  | [], x, h => by simp [nodess] at h
  | t :: ts, x, h => by
    simp only [nodess, List.mem_append] at h
    rcases h with h | h
    · have := nodes_size t x h; simp only [sizes]; omega
    · have := nodess_size ts x h; simp only [sizes]; omega
end
theorem sub_le_size (t : Tm) : t.sub.length ≤ t.size := by have := length_le_sizes t.sub; have := t.size_eq; omega
set_option maxHeartbeats 4000000 in
set_option maxRecDepth 100000 in
theorem check_calls (t : Tm) (A : Option Addr) (c : Nat) (w : World) (hM : t.size ≤ 1000000) (hs : Subs w 0 A t.sub) (hok : OkT t) (hG : Shapes w) :
    Calls Tryd.prog 14 #[tv t A c] w fun e w' => e = .returned (.int .i64 (checkE t)) ∧ Ext w w' := by
  have hd : t.depth ≤ t.size := t.depth_le_size
  by_cases h1 : 400 < t.size ∨ 60 < t.depth
  · have hr : Hid (checkE t = 4) := by show _ = _; unfold checkE; rw [if_pos h1]
    by_cases h2 : 400 < t.size
    · go_enter Tryd.func14, Tryd.ntmps14
      go_wp2_with (first | (go_at_call 18; refine (size_calls t A c _ hM (hs.mono (((Ext.refl w).alloc _).alloc _))).mono ?_; rintro e w1 ⟨rfl, hb1⟩; obtain ⟨p1, p2, p3⟩ := boxAt (hb1.heap (heap_new' (b := w.heap.size + 1) (by simp)))))
      exact bodyPost_ret (v := .int .i64 4) (by simp [results, Tryd.results14, go_sem, p1, p2, p3]) rfl ⟨ret_int hr.out.symm, ((((Ext.refl w).alloc _).alloc _).trans hb1).set (by simp) _⟩
    · have h3 : 60 < t.depth := h1.resolve_left h2
      go_enter Tryd.func14, Tryd.ntmps14
      go_wp2_with (first
        | (go_at_call 18; refine (size_calls t A c _ hM (hs.mono (((Ext.refl w).alloc _).alloc _))).mono ?_; rintro e w1 ⟨rfl, hb1⟩; obtain ⟨p1, p2, p3⟩ := boxAt (hb1.heap (heap_new' (b := w.heap.size + 1) (by simp))); obtain ⟨q0, q1, q2, q3, q4, q5, q6⟩ := box6 (((Ext.refl _).alloc _).trans hb1))
        | (go_at_call 20; refine (depth_calls 1000000 t A c _ hM (by omega) (hs.mono ((((Ext.refl w).alloc _).alloc _).trans hb1))).mono ?_; rintro e w2 ⟨rfl, hb2⟩; obtain ⟨p1, p2, p3⟩ := boxAt ((hb1.trans hb2).heap (heap_new' (b := w.heap.size + 1) (by simp)))))
      exact bodyPost_ret (v := .int .i64 4) (by simp [results, Tryd.results14, go_sem, p1, p2, p3]) rfl ⟨ret_int hr.out.symm, (((((Ext.refl w).alloc _).alloc _).trans hb1).trans hb2).set (by simp) _⟩
  · have h2 : t.size ≤ 400 := by omega
    have h3 : t.depth ≤ 60 := by omega
    refine (callsIn_wide (n := 5)).1 ?_
    refine callsIn_of_wp_marks Tryd.func14 rfl trivial ?_ rfl
    simp only [Tryd.ntmps14, List.size_toArray, List.length_cons, List.length_nil, Nat.reduceAdd, Nat.reduceSub, Array.replicate_succ, Array.replicate_zero, List.push_toArray, List.append_toArray, List.nil_append, List.cons_append]
    gi_wp2_with ((try refine ⟨trivial, ?_⟩); (try refine ⟨hdd _, ?_⟩); (first
        | (gi_at_call 18; refine (callsIn_wide.2 (size_calls t A c _ hM (hs.mono (((Ext.refl w).alloc _).alloc _)))).mono ?_; rintro e w1 ⟨rfl, hb1⟩; obtain ⟨q0, q1, q2, q3, q4, q5, q6⟩ := box6 (((Ext.refl _).alloc _).trans hb1))
        | (gi_at_call 20; refine (callsIn_wide.2 (depth_calls 1000000 t A c _ hM (by omega) (hs.mono ((((Ext.refl w).alloc _).alloc _).trans hb1)))).mono ?_; rintro e w2 ⟨rfl, hb2⟩; obtain ⟨q0, q1, q2, q3, q4, q5, q6⟩ := box6 ((((Ext.refl _).alloc _).trans hb1).trans hb2))
        | (gi_at_call 38; refine (callsIn_wide.2 (nodes_calls t A c _)).mono ?_; rintro e w' ⟨rfl, rfl⟩)))
    have e1 : Ext ((w.alloc (.cells (cells6 t A c) 25)).alloc (.cells #[.int .i64 0] 28)) w2 := hb1.trans hb2
    have e2 : Ext w w2 := (((Ext.refl w).alloc _).alloc _).trans e1
    have e3 := e1.heap (heap_new' (b := w.heap.size + 1) (by simp))
    have e4 := e1.sz
    simp only [World.size_alloc] at e4
    refine range_nodesB (w₀ := w) (n := 3) (q := 3) t A c w2.heap.size rfl (heap_new w2 _) (e2.alloc _) hs hM (fun x => Wf1 x ∧ x.sub.length ≤ 1000000) (fun x hx => ⟨hok x hx, by have := nodes_size t x hx; have := sub_le_size x; omega⟩)
      (fun pre W => W.heap[w.heap.size + 1]? = some (.cells #[.int .i64 0] 28 (0, 0)) ∧ W.heap[w.heap.size]? = some (.cells (cells6 t A c) 25 (0, 0)) ∧ pre.all nodeB = true)
      (fun pre W => W.heap[w.heap.size + 1]? = some (.cells #[.int .i64 8] 28 (0, 0)) ∧ pre.all nodeB = false) ?hI ?hIx ?h0 ?assign ?body ?done ?stop
    case hI => exact fun pre W W' h hk => ⟨(hk _ (by omega) (by simp; omega)).trans h.1, (hk _ (by omega) (by simp; omega)).trans h.2.1, h.2.2⟩
    case hIx => exact fun pre W W' h hk => ⟨(hk _ (by omega) (by simp; omega)).trans h.1, h.2⟩
    case h0 => exact ⟨((Ext.refl w2).alloc _).heap e3, ((Ext.refl w2).alloc _).heap ((((Ext.refl _).alloc _).trans e1).heap (heap_new w _)), rfl⟩
    case assign =>
      intro l x A' c' W K hK
      gi_wp2
      exact hK
    case body =>
      rintro l pre x A' c' Bx W ⟨hx, hxl⟩ hlen hE hz hs' ⟨hi1, hiB, hi2⟩ hBx hb
      obtain ⟨b0, b1, b2, b3, b4, b5, b6⟩ := box6At hb
      obtain ⟨r1, r2, r3⟩ := boxAt hi1
      have hg := Lib.hid (hG.mono hE)
      have hsW := Lib.hid (hs'.mono hE)
      have hlt : w.heap.size + 1 < w2.heap.size + 1 := by omega
      simp only [World.size_alloc] at hz
      clear q0 q1 q2 q3 q4 q5
      cases hn : nodeB x with
      | true =>
        gi_wp2_with ((try refine ⟨trivial, ?_⟩); (try refine ⟨hdd _, ?_⟩); gi_at_call 39; refine (CallsIn.inRound l (callsIn_wide.2 (node_calls x A' c' _ hxl (by have := hx.n; omega) hsW.out hx.k0 hx.k1 hg.out))).mono ?_; rintro e W1 ⟨rfl, hb3⟩)
        exact ⟨(Keep.refl _ _ W).ext hE.sz hb3, hb3.heap hi1, hb3.heap hiB, by simp [hi2, hn]⟩
      | false =>
        gi_wp2_with ((try refine ⟨trivial, ?_⟩); (try refine ⟨hdd _, ?_⟩); gi_at_call 39; refine (CallsIn.inRound l (callsIn_wide.2 (node_calls x A' c' _ hxl (by have := hx.n; omega) hsW.out hx.k0 hx.k1 hg.out))).mono ?_; rintro e W1 ⟨rfl, hb3⟩; obtain ⟨s1, s2, s3⟩ := boxAt (hb3.heap hi1))
        exact ⟨((Keep.refl _ _ W).ext hE.sz hb3).set (by simp) (by simpa using hlt) _, heap_set1 (hb3.heap hi1) _, by simp [hi2, hn]⟩
    case done =>
      rintro D W hD ⟨hi1, hiB, hi2⟩ hx hk
      obtain ⟨b0, b1, b2, b3, b4, b5, b6⟩ := box6At hiB
      obtain ⟨r1, r2, r3⟩ := boxAt hi1
      simp only [World.size_alloc] at hD
      clear q0 q1 q2 q3 q4 q5
      have hsW := hs.mono hx
      cases hcl : clash t.vars with
      | true =>
        have hr : Hid (checkE t = 14) := by show _ = _; unfold checkE; rw [if_neg h1, hi2, hcl]; rfl
        gi_wp2_with ((try refine ⟨trivial, ?_⟩); (try refine ⟨hdd _, ?_⟩); gi_at_call 30; refine (callsIn_wide.2 (variables_bad t A c _ hM hsW hok hcl)).mono ?_; rintro e w3 ⟨rfl, hb3⟩; obtain ⟨s1, s2, s3⟩ := boxAt (hb3.heap hi1))
        refine ⟨by simp, .inl ⟨_, _, rfl, run_takeDeferred ((Below.heap_setCell _ _ _ _ (by simp; omega)).trans (hb3.heap hk)), ?_⟩⟩
        have p1 := heap_cell ((World.putObj_heap_other (o := .deferred none) (show w.heap.size + 1 ≠ D by omega)).trans (heap_set1 (hb3.heap hi1) (.int .i64 14))) 0
        simp only [List.getElem?_toArray, List.getElem?_cons_zero] at p1
        exact ⟨.int .i64 14, by simp [results, Tryd.results14, go_sem, p1], ret_int hr.out.symm, ((hx.trans hb3).set (by simp) _).put (by omega) _⟩
      | false =>
        have hr : Hid (checkE t = 0) := by show _ = _; unfold checkE; rw [if_neg h1, hi2, hcl]; rfl
        gi_wp2_with ((try refine ⟨trivial, ?_⟩); (try refine ⟨hdd _, ?_⟩); gi_at_call 30; refine (callsIn_wide.2 (variables_good t A c _ hM hsW hok hcl)).mono ?_; rintro e w3 ⟨bm, nm, rfl, _, _, _, hb3⟩; obtain ⟨s1, s2, s3⟩ := boxAt (hb3.heap hi1))
        refine ⟨by simp, .inl ⟨_, _, rfl, run_takeDeferred ((Below.heap_setCell _ _ _ _ (by simp; omega)).trans (hb3.heap hk)), ?_⟩⟩
        have p1 := heap_cell ((World.putObj_heap_other (o := .deferred none) (show w.heap.size + 1 ≠ D by omega)).trans (heap_set1 (hb3.heap hi1) (.int .i64 0))) 0
        simp only [List.getElem?_toArray, List.getElem?_cons_zero] at p1
        exact ⟨.int .i64 0, by simp [results, Tryd.results14, go_sem, p1], ret_int hr.out.symm, ((hx.trans hb3).set (by simp) _).put (by omega) _⟩
    case stop =>
      rintro D pre W hD hp ⟨hi1, hi2⟩ hx hk
      have hr : Hid (checkE t = 8) := by
        show _ = _
        unfold checkE
        rw [if_neg h1]
        obtain ⟨r, hr⟩ := hp
        rw [← hr, List.all_append, hi2]; rfl
      simp only [World.size_alloc] at hD
      gi_wp2
      refine ⟨by simp, .inl ⟨_, _, rfl, run_takeDeferred hk, ?_⟩⟩
      have p1 := heap_cell ((World.putObj_heap_other (o := .deferred none) (show w.heap.size + 1 ≠ D by omega)).trans hi1) 0
      simp only [List.getElem?_toArray, List.getElem?_cons_zero] at p1
      exact ⟨.int .i64 8, by simp [results, Tryd.results14, go_sem, p1], ret_int hr.out.symm, hx.put (by omega) _⟩
end Go.Proofs.YthaocbfmdcmkkaaDoor.K
