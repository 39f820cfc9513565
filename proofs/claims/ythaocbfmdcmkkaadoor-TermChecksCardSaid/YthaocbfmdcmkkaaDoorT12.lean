/- Walks: grown. -/
import Derived.Test.YthaocbfmdcmkkaaDoorT11
import Derived.Laws.StructEq
set_option linter.unusedVariables false
namespace Go.Proofs.YthaocbfmdcmkkaaDoor.K
open Go.RowKit Go.Shelf
attribute [local go_sem] Oper.semAt_some

theorem name_inj {a b : ByteArray} (h : a.toList = b.toList) : a = b := by
  rw [ByteArray.toList_eq, ByteArray.toList_eq, Array.toList_inj] at h
  cases a; cases b; simpa using h
theorem name_ne {a b : ByteArray} (h : ¬ a = b) : (a.toList == b.toList) = false := by
  rw [beq_eq_false_iff_ne]; exact fun e => h (name_inj e)
/-- The size of a term after a substitution, node by node. -/
def grownL (n : ByteArray) (z : Int) (l : List Tm) : Int := l.foldl (fun s x => (if x.kind = 2 ∧ x.name = n then s + (z - 1) else s) + 1) 0
theorem grownL_snoc (n : ByteArray) (z : Int) (l : List Tm) (x : Tm) : grownL n z (l ++ [x]) = (if x.kind = 2 ∧ x.name = n then grownL n z l + (z - 1) else grownL n z l) + 1 := by simp [grownL]
theorem grownL_bound (n : ByteArray) (z : Int) (h1 : 1 ≤ z) (h2 : z ≤ 1000000) (l : List Tm) : 0 ≤ grownL n z l ∧ grownL n z l ≤ 1000000 * l.length := by
  refine snoc_ind (P := fun l => 0 ≤ grownL n z l ∧ grownL n z l ≤ 1000000 * l.length) l (by simp [grownL]) fun l x h => ?_
  rw [grownL_snoc, List.length_append]
  simp only [List.length_singleton]
  split <;> omega
theorem grownL_eq (n : ByteArray) (z : Int) (l : List Tm) : grownL n z l = l.length + timesN n (varsL l) * (z - 1) := by
  refine snoc_ind (P := fun l => grownL n z l = l.length + timesN n (varsL l) * (z - 1)) l (by simp [grownL, timesN, varsL]) fun l x h => ?_
  have hk : (x.isVar = true) ↔ x.kind = 2 := by simp [Tm.isVar]
  rw [grownL_snoc, h, varsL_snoc, List.length_append]
  have ht : ∀ r, timesN n (varsL l ++ r) = timesN n (varsL l) + timesN n r := fun r => by simp [timesN]
  rw [ht]
  by_cases h1 : x.kind = 2
  · rw [if_pos (hk.2 h1)]
    by_cases h2 : x.name = n
    · rw [if_pos ⟨h1, h2⟩]; simp [h2, timesN]; rw [Int.add_mul]; omega
    · rw [if_neg (fun h => h2 h.2)]; simp [h2, timesN]; omega
  · rw [if_neg (fun h => h1 (hk.1 h)), if_neg (fun h => h1 h.1)]; simp [timesN]; omega

set_option maxHeartbeats 4000000 in
set_option maxRecDepth 100000 in
theorem grown_calls (t : Tm) (A : Option Addr) (c : Nat) (n : ByteArray) (z : Int) (w : World) (hM : t.size ≤ 1000000) (hs : Subs w 0 A t.sub) (h1 : 1 ≤ z) (h2 : z ≤ 1000000) :
    Calls Tryd.prog 31 #[tv t A c, .string n, .int .i64 z] w fun e w' => e = .returned (.int .i64 (t.size + timesN n t.vars * (z - 1))) ∧ Ext w w' := by
  refine (callsIn_wide (n := 5)).1 ?_
  refine callsIn_of_wp_marks Tryd.func31 rfl trivial ?_ rfl
  simp only [Tryd.ntmps31, List.size_toArray, List.length_cons, List.length_nil, Nat.reduceAdd, Nat.reduceSub, Array.replicate_succ, Array.replicate_zero, List.push_toArray, List.append_toArray, List.nil_append, List.cons_append]
  gi_wp2_with ((try refine ⟨trivial, ?_⟩); (try refine ⟨hdd _, ?_⟩); gi_at_call 38; refine (callsIn_wide.2 (nodes_calls t A c _)).mono ?_; rintro e w' ⟨rfl, rfl⟩)
  refine range_nodesB (w₀ := w) (n := 3) (q := 8) t A c (w.heap.size + 4) rfl ?hbt ?hw hs hM (fun _ => True) (fun _ _ => trivial)
    (fun pre W => W.heap[w.heap.size + 1]? = some (.cells #[.string n] 9 (0, 0)) ∧ W.heap[w.heap.size + 2]? = some (.cells #[.int .i64 z] 3 (0, 0)) ∧ W.heap[w.heap.size + 3]? = some (.cells #[.int .i64 (grownL n z pre)] 3 (0, 0))) (fun _ _ => False) ?hI (fun _ _ _ h => h.elim) ?h0 ?assign ?body ?done ?stop
  case hbt => exact heap_new' (by simp)
  case hw => exact (((((Ext.refl w).alloc _).alloc _).alloc _).alloc _).alloc _
  case hI => exact fun pre W W' h hk => ⟨(hk _ (by omega) (by simp)).trans h.1, (hk _ (by omega) (by simp)).trans h.2.1, (hk _ (by omega) (by simp)).trans h.2.2⟩
  case h0 => exact ⟨((((Ext.refl _).alloc _).alloc _).alloc _).heap (heap_new' (by simp)), (((Ext.refl _).alloc _).alloc _).heap (heap_new' (by simp)), ((Ext.refl _).alloc _).heap (heap_new' (by simp))⟩
  case assign =>
    intro l x A' c' W K hK
    gi_wp2
    exact hK
  case body =>
    rintro l pre x A' c' Bx W - hlen hE hz hs' ⟨i1, i2, i3⟩ hBx hb
    obtain ⟨b0, b1, b2, b3, b4, b5, b6⟩ := box6At hb
    obtain ⟨r1, r2, r3⟩ := boxAt i1
    obtain ⟨s1, s2, s3⟩ := boxAt i2
    obtain ⟨u1, u2, u3⟩ := boxAt i3
    obtain ⟨g1, g2⟩ := grownL_bound n z h1 h2 pre
    have hsn := Lib.hid (grownL_snoc n z pre x)
    have g3 : grownL n z pre ≤ 1000000000000 := by omega
    cases hk : (x.kind == 2) with
    | true =>
      have hk' : x.kind = 2 := by simpa using hk
      by_cases hn : x.name = n
      · have hsn' := Lib.hid (hsn.out.trans (by rw [if_pos ⟨hk', hn⟩]))
        clear hsn hk'
        subst hn
        gi_wp2
        refine ⟨by simpa using ((Keep.refl _ _ W).set (p := ⟨w.heap.size + 3, 0, none⟩) (by simp) (by simp) _).set (p := ⟨w.heap.size + 3, 0, none⟩) (by simp) (by simp) _, ?_, ?_, ?_⟩
        · exact (Below.heap_setCell _ _ _ _ (by simp)).trans ((Below.heap_setCell _ _ _ _ (by simp)).trans i1)
        · exact (Below.heap_setCell _ _ _ _ (by simp)).trans ((Below.heap_setCell _ _ _ _ (by simp)).trans i2)
        · show _ = _
          rw [hsn'.out]; exact heap_set1 (heap_set1 i3 _) _
      · have hn' : (x.name.toList == n.toList) = false := name_ne hn
        have hsn' := Lib.hid (hsn.out.trans (by rw [if_neg (fun h => hn h.2)]))
        clear hsn hk' hn
        gi_wp2
        refine ⟨by simpa using ((Keep.refl _ _ W).set (p := ⟨w.heap.size + 3, 0, none⟩) (by simp) (by simp) _), ?_, ?_, ?_⟩
        · exact (Below.heap_setCell _ _ _ _ (by simp)).trans i1
        · exact (Below.heap_setCell _ _ _ _ (by simp)).trans i2
        · show _ = _
          rw [hsn'.out]; exact heap_set1 i3 _
    | false =>
      have hk' : ¬ x.kind = 2 := by simpa using hk
      have hsn' := Lib.hid (hsn.out.trans (by rw [if_neg (fun h => hk' h.1)]))
      clear hsn hk'
      gi_wp2
      refine ⟨by simpa using ((Keep.refl _ _ W).set (p := ⟨w.heap.size + 3, 0, none⟩) (by simp) (by simp) _), ?_, ?_, ?_⟩
      · exact (Below.heap_setCell _ _ _ _ (by simp)).trans i1
      · exact (Below.heap_setCell _ _ _ _ (by simp)).trans i2
      · show _ = _
        rw [hsn'.out]; exact heap_set1 i3 _
  case done =>
    rintro D W hD ⟨i1, i2, i3⟩ hx hk
    obtain ⟨u1, u2, u3⟩ := boxAt i3
    gi_wp2
    refine ⟨by simp, .inl ⟨_, _, rfl, run_takeDeferred hk, ?_⟩⟩
    refine ⟨_, results_tmp rfl _ _ _, ?_, hx.put (by simp at hD; omega) _⟩
    have := grownL_eq n z t.nodes
    rw [t.nodes_length] at this
    unfold Tm.vars
    rw [← this]; rfl
  case stop =>
    intro D pre W _ _ h
    exact h.elim
end Go.Proofs.YthaocbfmdcmkkaaDoor.K
