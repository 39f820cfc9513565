/- Walks: the map of a term's variables. -/
import Derived.Test.YthaocbfmdcmkkaaDoorT8
import Derived.Maps.OwnIn
import Derived.StringKeys
set_option linter.unusedVariables false
namespace Go.Proofs.YthaocbfmdcmkkaaDoor.K
open Go.RowKit Go.Shelf
attribute [local go_sem] Oper.semAt_some

/-- What lies in the cells of one node is of its kind. -/
structure Wf1 (t : Tm) : Prop where
  k0 : 0 ≤ t.kind
  k1 : t.kind ≤ 255
  w : (Lit.int .i64 t.width).wf = true
  b : (Lit.int .u64 t.bits).wf = true
  l : (Lit.int .i64 t.low).wf = true
  n : t.name.size ≤ 140737488351232
def OkT (t : Tm) : Prop := ∀ x ∈ t.nodes, Wf1 x
theorem OkT.here {t : Tm} (h : OkT t) : Wf1 t := h t (by rw [t.nodes_eq]; simp)
theorem OkT.part {t : Tm} (h : OkT t) {k : Nat} (hk : k < t.sub.length) : OkT t.sub[k] := fun x hx => h x (by rw [t.nodes_eq]; exact List.mem_cons_of_mem _ (nodess_mem hk hx))

/-- The datum of a map that holds these. -/
def nkey (n : ByteArray) : Lit := .string n.data.toList
def mapD (l : List (ByteArray × Int)) : DataW Unit := l.foldl (fun D v => D.put (nkey v.1) (.lit (.int .i64 v.2))) (.map [])
theorem mapD_snoc (l : List (ByteArray × Int)) (v : ByteArray × Int) : mapD (l ++ [v]) = (mapD l).put (nkey v.1) (.lit (.int .i64 v.2)) := by simp [mapD]
theorem nkey_inj {a b : ByteArray} : nkey a = nkey b ↔ a = b := ⟨fun h => by cases a; cases b; simpa [nkey, Array.toList_inj] using h, fun h => by rw [h]⟩
theorem snoc_ind {α : Type} {P : List α → Prop} (l : List α) (h0 : P []) (h1 : ∀ l x, P l → P (l ++ [x])) : P l := by
  have : ∀ k, k ≤ l.length → P (l.take k) := by
    intro k
    induction k with
    | zero => intro _; simpa using h0
    | succ k ih => intro h; rw [take_succ' l k (by omega)]; exact h1 _ _ (ih (by omega))
  simpa using this l.length (Nat.le_refl _)
theorem put_isMap {D : DataW Unit} (h : Maps.IsMap D) (k : Lit) (d : DataW Unit) : Maps.IsMap (D.put k d) := by obtain ⟨es, rfl⟩ := h; exact ⟨_, rfl⟩
theorem mapD_isMap (l : List (ByteArray × Int)) : Maps.IsMap (mapD l) :=
  snoc_ind (P := fun l => Maps.IsMap (mapD l)) l ⟨[], rfl⟩ fun l x h => by rw [mapD_snoc]; exact put_isMap h _ _
theorem nkey_lit (n : ByteArray) : WideAt.IsKeyLit (nkey n) := by simp [nkey, WideAt.IsKeyLit]
theorem has_mapD (l : List (ByteArray × Int)) (n : ByteArray) : Maps.has (mapD l) (nkey n) = l.any (fun v => decide (v.1 = n)) := by
  refine snoc_ind (P := fun l => Maps.has (mapD l) (nkey n) = l.any (fun v => decide (v.1 = n))) l rfl fun l x h => ?_
  rw [mapD_snoc, List.any_append]
  by_cases e : n = x.1
  · subst e; rw [Maps.has_put_same (mapD_isMap l) (nkey_lit _)]; simp
  · rw [Maps.has_put_other (fun he => e (nkey_inj.1 he)), h]; simp [show ¬ x.1 = n from fun he => e he.symm]
theorem clash_false {l : List (ByteArray × Int)} : clash l = false ↔ ∀ a ∈ l, ∀ b ∈ l, a.1 = b.1 → a.2 = b.2 := by
  simp only [clash]
  rw [Bool.eq_false_iff, Ne, List.any_eq_true]
  constructor
  · intro h a ha b hb he
    refine Classical.byContradiction fun hne => h ⟨a, ha, List.any_eq_true.2 ⟨b, hb, by simp [he, hne]⟩⟩
  · rintro h ⟨a, ha, hx⟩
    obtain ⟨b, hb, hx⟩ := List.any_eq_true.1 hx
    simp at hx
    exact hx.2 (h a ha b hb hx.1)
theorem atKey_mapD {l : List (ByteArray × Int)} (hc : clash l = false) {n : ByteArray} {x : Int} (hm : (n, x) ∈ l) (z : DataW Unit) : (mapD l).atKey (nkey n) z = .lit (.int .i64 x) := by
  rw [clash_false] at hc
  revert hc hm
  refine snoc_ind (P := fun l => (∀ a ∈ l, ∀ b ∈ l, a.1 = b.1 → a.2 = b.2) → (n, x) ∈ l → (mapD l).atKey (nkey n) z = .lit (.int .i64 x)) l (by simp) fun l v h hc hm => ?_
  rw [mapD_snoc]
  by_cases e : n = v.1
  · subst e
    rw [Maps.atKey_put_same (mapD_isMap l) (nkey_lit _)]
    have := hc _ hm v (by simp) rfl
    simp at this; rw [this]
  · rw [Maps.atKey_put_other (fun he => e (nkey_inj.1 he))]
    refine h (fun a ha b hb => hc a (by simp [ha]) b (by simp [hb])) ?_
    rcases List.mem_append.1 hm with hm | hm
    · exact hm
    · simp at hm; exact (e (by rw [← hm])).elim
theorem atKey_mapD_none {l : List (ByteArray × Int)} {n : ByteArray} (h : l.any (fun v => decide (v.1 = n)) = false) (z : DataW Unit) : (mapD l).atKey (nkey n) z = z :=
  Maps.atKey_of_not_has (by rw [has_mapD, h]) z
theorem varsL_snoc (l : List Tm) (t : Tm) : varsL (l ++ [t]) = varsL l ++ if t.isVar then [(t.name, t.width)] else [] := by
  unfold varsL; rw [List.filter_append, List.map_append]; congr 1; by_cases h : t.isVar <;> simp [h]

theorem zeroInt (w : World) : (zeroValue 3).run Tryd.prog w = .ok (.int .i64 0) w := by kernel_rfl
theorem nkey_of {s : ByteArray} (hs : s.size ≤ 140737488351232) : keyOf Tryd.prog 9 (.string s) = some (nkey s) := WideMaps.keyOf_string_mk Tryd.underlying9 (by unfold maxLen; omega)
theorem ownsMap_heap {W W' : World} {P : Program} {k : TypeId} {R : Value → Option (DataW Unit × List MemPlace)} {b n : Nat} {D : DataW Unit} (h : W.ownsMap P k R b n D) (he : W'.heap[b]? = W.heap[b]?) : W'.ownsMap P k R b n D := by
  obtain ⟨es, clock, hb, F⟩ := h
  exact ⟨es, clock, he.trans hb, F⟩
theorem ownsMap_nil {W : World} {P : Program} {k : TypeId} {R : Value → Option (DataW Unit × List MemPlace)} {b : Nat} (h : W.heap[b]? = some (.map #[] 0)) : W.ownsMap P k R b 0 (.map []) := by
  obtain ⟨es, clock, hb, F⟩ := World.ownsMap_made W P k R
  have e := heap_new W (.map #[] 0)
  rw [hb] at e
  injection e with e
  injection e with e1 e2
  subst e1 e2
  exact ⟨_, _, h, F⟩
theorem Keep.grown {lo hi : Nat} {X W W' : World} {r : Nat} (h : Keep lo hi X W) (hl : lo ≤ W.heap.size) (hg : W.grownBy W' (some r)) (h1 : lo ≤ r) (h2 : r < hi) : Keep lo hi X W' :=
  ⟨h.low.grown hg hl (fun k e => by cases e; exact h1), fun k hk hx => (hg.block k (Nat.lt_of_lt_of_le hx h.low.size) (by simp; omega)).trans (h.high k hk hx)⟩
theorem grown_heap {W W' : World} {r b : Nat} {o : Obj} (hg : W.grownBy W' (some r)) (h : W.heap[b]? = some o) (hne : b ≠ r) : W'.heap[b]? = some o := (hg.block b (heap_lt h) (by simpa using hne)).trans h
/-- What the loop of 'variables' holds. -/
structure VarsI (N : Nat) (pre : List Tm) (W : World) : Prop where
  r1 : W.heap[N + 1]? = some (.cells #[.map none] 52 (0, 0))
  r2 : W.heap[N + 2]? = some (.cells #[.bool false] 4 (0, 0))
  m : W.heap[N + 4]? = some (.cells #[.map (some (N + 3))] 52 (0, 0))
  own : W.ownsMap Tryd.prog 9 (plainElem (H := Unit) Tryd.prog 3) (N + 3) pre.length (mapD (varsL pre))
  cl : clash (varsL pre) = false
structure VarsX (N : Nat) (pre : List Tm) (W : World) : Prop where
  r1 : W.heap[N + 1]? = some (.cells #[.map none] 52 (0, 0))
  r2 : W.heap[N + 2]? = some (.cells #[.bool false] 4 (0, 0))
  cl : clash (varsL pre) = true
theorem clash_snoc {l : List (ByteArray × Int)} {n : ByteArray} {x : Int} (h : clash l = false) (hn : ∀ y, (n, y) ∈ l → y = x) : clash (l ++ [(n, x)]) = false := by
  rw [clash_false] at h ⊢
  intro a ha b hb he
  simp only [List.mem_append, List.mem_singleton] at ha hb
  rcases ha with ha | rfl <;> rcases hb with hb | rfl
  · exact h a ha b hb he
  · exact hn a.2 (by simp only at he; rw [← he]; exact ha)
  · exact (hn b.2 (by simp only at he; rw [he]; exact hb)).symm
  · rfl
theorem clash_of {l : List (ByteArray × Int)} {n : ByteArray} {x y : Int} (h1 : (n, x) ∈ l) (h2 : (n, y) ∈ l) (hne : x ≠ y) : clash l = true := by
  cases h : clash l with
  | true => rfl
  | false => rw [clash_false] at h; exact (hne (h _ h1 _ h2 rfl)).elim

set_option maxHeartbeats 4000000 in
set_option maxRecDepth 100000 in
theorem variables_calls (t : Tm) (A : Option Addr) (c : Nat) (w : World) (hM : t.size ≤ 1000000) (hs : Subs w 0 A t.sub) (hok : OkT t) :
    Calls Tryd.prog 30 #[tv t A c] w fun e w' => Ext w w' ∧
      ((clash t.vars = true ∧ e = .returned (.tuple #[.map none, .bool false])) ∨
       (clash t.vars = false ∧ ∃ b n, w.heap.size ≤ b ∧ n ≤ 1000000 ∧ e = .returned (.tuple #[.map (some b), .bool true]) ∧ w'.ownsMap Tryd.prog 9 (plainElem (H := Unit) Tryd.prog 3) b n (mapD t.vars))) := by
  have hmm := @run_makeMap Tryd.prog
  refine (callsIn_wide (n := 5)).1 ?_
  refine callsIn_of_wp_marks Tryd.func30 rfl trivial ?_ rfl
  simp only [Tryd.ntmps30, List.size_toArray, List.length_cons, List.length_nil, Nat.reduceAdd, Nat.reduceSub, Array.replicate_succ, Array.replicate_zero, List.push_toArray, List.append_toArray, List.nil_append, List.cons_append]
  gi_wp2_with ((try refine ⟨trivial, ?_⟩); (try refine ⟨hdd _, ?_⟩); gi_at_call 38; refine (callsIn_wide.2 (nodes_calls t A c _)).mono ?_; rintro e w' ⟨rfl, rfl⟩)
  clear hmm
  refine range_nodesB (w₀ := w) (n := 3) (q := 5) t A c (w.heap.size + 5) rfl ?hbt ?hw hs hM Wf1 hok (VarsI w.heap.size) (VarsX w.heap.size) ?hI ?hIx ?h0 ?assign ?body ?done ?stop
  case hbt => exact heap_new' (by simp)
  case hw => exact ((((((Ext.refl w).alloc _).alloc _).alloc _).alloc _).alloc _).alloc _
  case hI => exact fun pre W W' h hk => ⟨(hk _ (by omega) (by simp)).trans h.r1, (hk _ (by omega) (by simp)).trans h.r2, (hk _ (by omega) (by simp)).trans h.m, ownsMap_heap h.own (hk _ (by omega) (by simp)), h.cl⟩
  case hIx => exact fun pre W W' h hk => ⟨(hk _ (by omega) (by simp)).trans h.r1, (hk _ (by omega) (by simp)).trans h.r2, h.cl⟩
  case h0 =>
    refine ⟨?_, ?_, ?_, ?_, rfl⟩
    · exact ((((Ext.refl _).alloc _).alloc _).alloc _ |>.alloc _).heap (heap_new' (by simp))
    · exact ((((Ext.refl _).alloc _).alloc _).alloc _).heap (heap_new' (by simp))
    · exact ((Ext.refl _).alloc _).heap (heap_new' (by simp))
    · exact ownsMap_nil ((((Ext.refl _).alloc _).alloc _).heap (heap_new' (by simp)))
  case assign =>
    intro l x A' c' W K hK
    gi_wp2
    exact hK
  case body =>
    rintro l pre x A' c' Bx W hx hlen hE hz hs' hi hBx hb
    have b0 := heap_cell hb 0
    have b1 := heap_cell hb 1
    have b3 := heap_cell hb 3
    have m0 := heap_cell hi.m 0
    have r1 := heap_cell hi.r1 0
    have r2 := heap_cell hi.r2 0
    have f1 := heap_frozen hi.r1 0
    have f2 := heap_frozen hi.r2 0
    simp only [cells6, List.getElem?_toArray, List.getElem?_cons_zero, List.getElem?_cons_succ] at b0 b1 b3 m0 r1 r2
    have hsn := Lib.hid (varsL_snoc pre x)
    have hKR := Keep.refl w.heap.size (w.heap.size + 6) W
    cases hv : (x.kind != 2) with
    | true =>
      have hv' : x.isVar = false := by simpa [Tm.isVar, bne] using hv
      rw [hv'] at hsn
      gi_wp2
      exact ⟨by simpa using hKR, hi.r1, hi.r2, hi.m, by rw [hsn.out]; simpa using hi.own.mono (by simp), by rw [hsn.out]; simpa using hi.cl⟩
    | false =>
      have hv' : x.isVar = true := by simpa [Tm.isVar, bne] using hv
      rw [hv'] at hsn
      have hkey := nkey_of hx.n
      have hown := hi.own
      have hhas := has_mapD (varsL pre) x.name
      have hlm : pre.length < maxLen := by unfold maxLen; omega
      cases hany : (varsL pre).any (fun v => decide (v.1 = x.name)) with
      | false =>
        rw [hany] at hhas
        gi_wp2_with (first
          | (gi_at_lookup; refine wpListIn_lookup_own_ok_int _ rfl _ _ 52 rfl 9 3 .i64 (Maps.string_keyed Tryd.underlying9) Tryd.underlying52 Tryd.underlying3 (zeroInt _) (w.heap.size + 3) pre.length _ rfl hown _ (nkey x.name) rfl hkey ?_; intro c0 hat hwf; rw [hhas])
          | (gi_at_mapUpdate; refine wpListIn_mapUpdate_own _ rfl _ _ _ 52 rfl 9 3 (Maps.string_keyed Tryd.underlying9) Tryd.underlying52 _ (w.heap.size + 3) pre.length _ rfl hown hlm _ _ (nkey x.name) rfl rfl hkey _ [] (plainElem_int Tryd.underlying3 hx.w) ?_; intro w1 hown1 hgrow1))
        refine ⟨by simpa using hKR.grown hE.sz hgrow1 (by omega) (by omega), grown_heap hgrow1 hi.r1 (by omega), grown_heap hgrow1 hi.r2 (by omega), grown_heap hgrow1 hi.m (by omega), by rw [hsn.out]; simpa [mapD_snoc] using hown1, ?_⟩
        rw [hsn.out]
        exact clash_snoc hi.cl fun y hy => by rw [List.any_eq_false] at hany; exact (hany _ hy (by simp)).elim
      | true =>
        rw [hany] at hhas
        obtain ⟨v, hv1, hv2⟩ := List.any_eq_true.1 hany
        obtain ⟨nm, y⟩ := v
        simp only [decide_eq_true_eq] at hv2
        subst hv2
        have haty := Lib.hid (atKey_mapD hi.cl hv1 (.lit (.int .i64 0)))
        cases hyx : (y != x.width) with
        | false =>
          gi_wp2_with (first
            | (gi_at_lookup; refine wpListIn_lookup_own_ok_int _ rfl _ _ 52 rfl 9 3 .i64 (Maps.string_keyed Tryd.underlying9) Tryd.underlying52 Tryd.underlying3 (zeroInt _) (w.heap.size + 3) pre.length _ rfl hown _ (nkey x.name) rfl hkey ?_; intro c0 hat hwf; rw [hhas]; obtain rfl : c0 = y := by (have := hat.symm.trans haty.out; simpa using this))
            | (gi_at_mapUpdate; refine wpListIn_mapUpdate_own _ rfl _ _ _ 52 rfl 9 3 (Maps.string_keyed Tryd.underlying9) Tryd.underlying52 _ (w.heap.size + 3) pre.length _ rfl hown hlm _ _ (nkey x.name) rfl rfl hkey _ [] (plainElem_int Tryd.underlying3 hx.w) ?_; intro w1 hown1 hgrow1))
          refine ⟨by simpa using hKR.grown hE.sz hgrow1 (by omega) (by omega), grown_heap hgrow1 hi.r1 (by omega), grown_heap hgrow1 hi.r2 (by omega), grown_heap hgrow1 hi.m (by omega), by rw [hsn.out]; simpa [mapD_snoc] using hown1, ?_⟩
          rw [hsn.out]
          refine clash_snoc hi.cl fun y hy => ?_
          have h1 := clash_false.1 hi.cl _ hy _ hv1 rfl
          have h2 : c0 = x.width := by simpa [bne] using hyx
          exact h1.trans h2
        | true =>
          gi_wp2_with (first
            | (gi_at_lookup; refine wpListIn_lookup_own_ok_int _ rfl _ _ 52 rfl 9 3 .i64 (Maps.string_keyed Tryd.underlying9) Tryd.underlying52 Tryd.underlying3 (zeroInt _) (w.heap.size + 3) pre.length _ rfl hown _ (nkey x.name) rfl hkey ?_; intro c0 hat hwf; rw [hhas]; obtain rfl : c0 = y := by (have := hat.symm.trans haty.out; simpa using this))
            | (gi_at_mapUpdate; refine wpListIn_mapUpdate_own _ rfl _ _ _ 52 rfl 9 3 (Maps.string_keyed Tryd.underlying9) Tryd.underlying52 _ (w.heap.size + 3) pre.length _ rfl hown hlm _ _ (nkey x.name) rfl rfl hkey _ [] (plainElem_int Tryd.underlying3 hx.w) ?_; intro w1 hown1 hgrow1))
          refine ⟨by simpa using (hKR.set (p := ⟨w.heap.size + 1, 0, none⟩) (by simp) (by simp) _).set (p := ⟨w.heap.size + 2, 0, none⟩) (by simp) (by simp) _, ?_, ?_, ?_⟩
          · exact (Below.heap_setCell _ _ _ _ (by simp)).trans (heap_set1 hi.r1 _)
          · exact heap_set1 ((Below.heap_setCell _ _ _ _ (by simp)).trans hi.r2) _
          · rw [hsn.out]
            refine clash_of (n := x.name) (x := c0) (y := x.width) (List.mem_append_left _ hv1) (List.mem_append_right _ (by simp)) ?_
            intro e; rw [e] at hyx; simp [bne] at hyx
  case done =>
    intro D W hD hi hx hk
    have m0 := heap_cell hi.m 0
    have r1 := heap_cell hi.r1 0
    have r2 := heap_cell hi.r2 0
    have f1 := heap_frozen hi.r1 0
    have f2 := heap_frozen hi.r2 0
    simp only [List.getElem?_toArray, List.getElem?_cons_zero] at m0 r1 r2
    simp only [World.size_alloc] at hD
    have q1 : ((W.setCell ⟨w.heap.size + 1, 0, none⟩ (.map (some (w.heap.size + 3)))).setCell ⟨w.heap.size + 2, 0, none⟩ (.bool true)).heap[w.heap.size + 1]? = some (.cells #[.map (some (w.heap.size + 3))] 52 (0, 0)) := (Below.heap_setCell _ _ _ _ (by simp)).trans (heap_set1 hi.r1 _)
    have q2 : ((W.setCell ⟨w.heap.size + 1, 0, none⟩ (.map (some (w.heap.size + 3)))).setCell ⟨w.heap.size + 2, 0, none⟩ (.bool true)).heap[w.heap.size + 2]? = some (.cells #[.bool true] 4 (0, 0)) := heap_set1 ((Below.heap_setCell _ _ _ _ (by simp)).trans hi.r2) _
    have q3 : ((W.setCell ⟨w.heap.size + 1, 0, none⟩ (.map (some (w.heap.size + 3)))).setCell ⟨w.heap.size + 2, 0, none⟩ (.bool true)).heap[w.heap.size + 3]? = W.heap[w.heap.size + 3]? := (Below.heap_setCell _ _ _ _ (by simp)).trans (Below.heap_setCell _ _ _ _ (by simp))
    have qD : ((W.setCell ⟨w.heap.size + 1, 0, none⟩ (.map (some (w.heap.size + 3)))).setCell ⟨w.heap.size + 2, 0, none⟩ (.bool true)).heap[D]? = some (.deferred (some [])) := (Below.heap_setCell _ _ _ _ (by simp; omega)).trans ((Below.heap_setCell _ _ _ _ (by simp; omega)).trans hk)
    have qE : Ext w ((W.setCell ⟨w.heap.size + 1, 0, none⟩ (.map (some (w.heap.size + 3)))).setCell ⟨w.heap.size + 2, 0, none⟩ (.bool true)) := (hx.set (by simp) _).set (by simp) _
    gi_wp2
    refine ⟨by simp, .inl ⟨_, _, rfl, run_takeDeferred qD, ?_⟩⟩
    have p1 := heap_cell ((World.putObj_heap_other (o := .deferred none) (show w.heap.size + 1 ≠ D by omega)).trans q1) 0
    have p2 := heap_cell ((World.putObj_heap_other (o := .deferred none) (show w.heap.size + 2 ≠ D by omega)).trans q2) 0
    have p3 := (World.putObj_heap_other (o := .deferred none) (show w.heap.size + 3 ≠ D by omega)).trans q3
    simp only [List.getElem?_toArray, List.getElem?_cons_zero] at p1 p2
    refine ⟨.tuple #[.map (some (w.heap.size + 3)), .bool true], by simp [results, Tryd.results30, go_sem, p1, p2], qE.put (by omega) _, .inr ⟨hi.cl, w.heap.size + 3, t.nodes.length, by omega, by rw [t.nodes_length]; exact hM, rfl, ownsMap_heap hi.own p3⟩⟩
  case stop =>
    intro D pre W hD hp hi hx hk
    have r1 := heap_cell hi.r1 0
    have r2 := heap_cell hi.r2 0
    simp only [List.getElem?_toArray, List.getElem?_cons_zero] at r1 r2
    simp only [World.size_alloc] at hD
    gi_wp2
    refine ⟨by simp, .inl ⟨_, _, rfl, run_takeDeferred hk, ?_⟩⟩
    have p1 := heap_cell ((World.putObj_heap_other (o := .deferred none) (show w.heap.size + 1 ≠ D by omega)).trans hi.r1) 0
    have p2 := heap_cell ((World.putObj_heap_other (o := .deferred none) (show w.heap.size + 2 ≠ D by omega)).trans hi.r2) 0
    simp only [List.getElem?_toArray, List.getElem?_cons_zero] at p1 p2
    refine ⟨.tuple #[.map none, .bool false], by simp [results, Tryd.results30, go_sem, p1, p2], hx.put (by omega) _, .inl ⟨?_, rfl⟩⟩
    obtain ⟨rest, hr⟩ := hp
    have hc := hi.cl
    cases h : clash t.vars with
    | true => rfl
    | false =>
      rw [clash_false] at h
      have : clash (varsL pre) = false := clash_false.2 fun a ha b hb => h a (by unfold Tm.vars; rw [← hr]; unfold varsL at ha ⊢; rw [List.filter_append, List.map_append]; exact List.mem_append_left _ ha) b (by unfold Tm.vars; rw [← hr]; unfold varsL at hb ⊢; rw [List.filter_append, List.map_append]; exact List.mem_append_left _ hb)
      rw [this] at hc; cases hc
theorem variables_bad (t : Tm) (A : Option Addr) (c : Nat) (w : World) (hM : t.size ≤ 1000000) (hs : Subs w 0 A t.sub) (hok : OkT t) (hc : clash t.vars = true) :
    Calls Tryd.prog 30 #[tv t A c] w fun e w' => e = .returned (.tuple #[.map none, .bool false]) ∧ Ext w w' :=
  (variables_calls t A c w hM hs hok).mono fun e w' ⟨h1, h2⟩ => h2.elim (fun h => ⟨h.2, h1⟩) (fun h => by rw [hc] at h; cases h.1)
theorem variables_good (t : Tm) (A : Option Addr) (c : Nat) (w : World) (hM : t.size ≤ 1000000) (hs : Subs w 0 A t.sub) (hok : OkT t) (hc : clash t.vars = false) :
    Calls Tryd.prog 30 #[tv t A c] w fun e w' => ∃ b n, e = .returned (.tuple #[.map (some b), .bool true]) ∧ w'.ownsMap Tryd.prog 9 (plainElem (H := Unit) Tryd.prog 3) b n (mapD t.vars) ∧ w.heap.size ≤ b ∧ n ≤ 1000000 ∧ Ext w w' :=
  (variables_calls t A c w hM hs hok).mono fun e w' ⟨h1, h2⟩ => h2.elim (fun h => by rw [hc] at h; cases h.1) (fun ⟨_, b, n, h3, h4, h5, h6⟩ => ⟨b, n, h5, h6, h3, h4, h1⟩)
end Go.Proofs.YthaocbfmdcmkkaaDoor.K
