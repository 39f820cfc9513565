/- Walks: the iterator over a term's nodes, and the law for a range over it. -/
import Derived.Test.YthaocbfmdcmkkaaDoorT5
import Derived.RangeFuncNested
import Derived.RangeFuncBound
import Derived.RangeFuncCalls
import Derived.RangeFuncLeaves
import Derived.Shelf.Abstract
import Derived.Shelf.RegionOpen
import Derived.OwnWalkIn
import Derived.TacticsInMore
import Derived.LoopNIn
import Derived.LoopIn
set_option linter.unusedVariables false
namespace Go.Proofs.YthaocbfmdcmkkaaDoor.K
open Go.RowKit Go.Shelf
attribute [local go_sem] Oper.semAt_some

/-- A node's value as it lies in w. -/
structure NodeV (w : World) (ok : Tm → Prop) where
  t : Tm
  A : Option Addr
  c : Nat
  hs : Subs w 0 A t.sub
  hok : ok t
abbrev NodeV.v {w : World} {ok : Tm → Prop} (x : NodeV w ok) : Value := tv x.t x.A x.c

theorem room_of_none {F : Fence} (hd : F.depth = none) (k : Nat) : F.room k := fun d h => by rw [hd] at h; cases h
theorem RoundIn.anyDepth {F : Fence} (hd : F.depth = none) {m m' : Nat} {P : Program} {l : Nat} {f : FuncId} {tmps : Array Value} {assign body : Code} {w : World} {R : Ending → World → Prop}
    (h : RoundIn F m P l f tmps assign body w R) : RoundIn F m' P l f tmps assign body w R := ⟨h.1, fun c cs _ => h.2 c cs (room_of_none hd _)⟩
theorem YieldAt.anyDepth {F : Fence} (hd : F.depth = none) {m : Nat} (m' : Nat) {P : Program} {l : Nat} {args : Array Value} {W : World} {R : Ending → World → Prop} (h : YieldAt F m P l args W R) : YieldAt F m' P l args W R := by
  obtain ⟨fn, tmps, assign, body, hy, hR⟩ := h
  exact ⟨fn, tmps, assign, body, hy, RoundIn.anyDepth hd hR⟩
theorem hdd (k : Nat) : (Fence.wide.depth.isSome = true → 1 ≤ k) := fun h => by cases h

/-- What a round keeps: all below n, and all cells from B on. -/
structure KeepC (n B : Nat) (W W' : World) : Prop where
  low : Below n W W'
  cells : ∀ k c e f, B ≤ k → W.heap[k]? = some (.cells c e f) → W'.heap[k]? = some (.cells c e f)
theorem KeepC.refl (n B : Nat) (W : World) : KeepC n B W W := ⟨Below.refl _ _, fun _ _ _ _ _ h => h⟩
theorem KeepC.trans {n B : Nat} {X Y Z : World} (h : KeepC n B X Y) (k : KeepC n B Y Z) : KeepC n B X Z := ⟨h.low.trans k.low, fun i c e f hb hi => k.cells i c e f hb (h.cells i c e f hb hi)⟩
theorem KeepC.alloc {n B : Nat} {X W : World} (h : KeepC n B X W) (hn : n ≤ W.heap.size) (o : Obj) : KeepC n B X (W.alloc o) :=
  h.trans ⟨(Below.refl _ _).alloc hn _, fun k c e f _ hk => (Below.heap_alloc W o k (Array.getElem?_eq_some_iff.1 hk).1).trans hk⟩
theorem keepC_b {n B : Nat} (W : World) (l : Nat) (o o' : Obj) (hl : B ≤ l) (hn : n ≤ B) (h : W.heap[l]? = some o) (hc : o.isCells = false) : KeepC n B W (W.putObj l o') :=
  ⟨(Below.refl n W).grown (grownBy_putObj' W l o') (by have := (Array.getElem?_eq_some_iff.1 h).1; omega) (fun k e => by cases e; omega), fun k c e f _ hk => by
    by_cases e : k = l
    · subst e; rw [h] at hk; cases hk; cases hc
    · exact (World.putObj_heap_other e).trans hk⟩
/-- What the body of such a loop owes: it writes its function's own variables, the blocks from lo to hi, alone. -/
structure Keep (lo hi : Nat) (W W' : World) : Prop where
  low : Below lo W W'
  high : ∀ k, hi ≤ k → k < W.heap.size → W'.heap[k]? = W.heap[k]?
theorem Keep.refl (lo hi : Nat) (W : World) : Keep lo hi W W := ⟨Below.refl _ _, fun _ _ _ => rfl⟩
theorem Keep.ext {lo hi : Nat} {X W W' : World} (h : Keep lo hi X W) (hl : lo ≤ W.heap.size) (k : Ext W W') : Keep lo hi X W' :=
  ⟨h.low.trans (k.b.mono hl), fun i hi' hx => (k.b.block i (Nat.lt_of_lt_of_le hx h.low.size)).trans (h.high i hi' hx)⟩
theorem Keep.set {lo hi : Nat} {X W : World} (h : Keep lo hi X W) {p : Addr} (h1 : lo ≤ p.block) (h2 : p.block < hi) (v : Value) : Keep lo hi X (W.setCell p v) :=
  ⟨h.low.setCell h1 v, fun i hi' hx => (Below.heap_setCell W p v i (by omega)).trans (h.high i hi' hx)⟩
theorem Keep.keepC {lo hi : Nat} {W W' : World} (h : Keep lo hi W W') : KeepC lo hi W W' :=
  ⟨h.low, fun k c e f hk hh => (h.high k hk (heap_lt hh)).trans hh⟩
theorem Keep.from {lo hi : Nat} {W W' : World} (h : Keep lo hi W W') : KeepsFrom hi W W' := ⟨h.low.size, fun k o hk hh _ => (h.high k hk (heap_lt hh)).trans hh⟩

theorem nodess_mem {xs : List Tm} {k : Nat} (h : k < xs.length) {x : Tm} (hx : x ∈ xs[k].nodes) : x ∈ nodess xs := by
  induction xs generalizing k with
  | nil => simp at h
  | cons y ys ih =>
    cases k with
    | zero => simp only [nodess, List.mem_append]; exact .inl hx
    | succ k => simp only [nodess, List.mem_append]; exact .inr (ih (by simpa using h) hx)
set_option maxHeartbeats 2000000 in
set_option maxRecDepth 100000 in
theorem visit_in (w₀ : World) (ok : Tm → Prop) (l N B : Nat) (J Jx : List (NodeV w₀ ok) → World → Prop) (hJ : AbidesFrom B J)
    (hY : ∀ m pre (x : NodeV w₀ ok) W, J pre W → pre.length < N → YieldAt Fence.wide m Tryd.prog l #[x.v] W fun e W' =>
      (e = .returned (.bool true) ∧ J (pre ++ [x]) W' ∧ KeepC w₀.heap.size B W W') ∨ (e = .returned (.bool false) ∧ Jx (pre ++ [x]) W'))
    (M : Nat) : ∀ (n : Nat) (t : Tm) (A : Option Addr) (c : Nat) (pre : List (NodeV w₀ ok)) (W : World), t.size ≤ M → M ≤ 1000000 → Subs w₀ 0 A t.sub → (∀ x ∈ t.nodes, ok x) → Below w₀.heap.size w₀ W → B ≤ W.heap.size → J pre W → pre.length + t.size ≤ N →
      CallsIn Fence.wide n Tryd.prog 52 #[tv t A c, .func (.yield l) #[] #[]] W fun e W' =>
        (∃ post : List (NodeV w₀ ok), post.map NodeV.t = t.nodes ∧ e = .returned (.bool true) ∧ J (pre ++ post) W' ∧ KeepC w₀.heap.size B W W') ∨
        (e = .returned (.bool false) ∧ ∃ q : List (NodeV w₀ ok), q.map NodeV.t <+: t.nodes ∧ Jx (pre ++ q) W') := by
  induction M with
  | zero => intro n t A c pre W h; have := t.size_pos; omega
  | succ M ih =>
  intro n t A c pre W hM hM6 hs hok hW hBW hJ0 hN
  have hz := t.size_eq
  have hok0 : ok t := hok t (by rw [t.nodes_eq]; simp)
  have Hok := Lib.hid hok
  clear hok
  have hl := length_le_sizes t.sub
  have hw0 := hW.size
  refine callsIn_of_wp Tryd.func52 rfl trivial ?_ rfl
  simp only [Tryd.ntmps52, List.size_toArray, List.length_cons, List.length_nil, Nat.reduceAdd, Nat.reduceSub, Array.replicate_succ, Array.replicate_zero, List.push_toArray, List.append_toArray, List.nil_append, List.cons_append]
  have hJ1 : J pre (W.alloc (.cells (cells6 t A c) 25)) := hJ _ _ _ none hJ0 (World.grownBy_alloc W _ none) (fun r e => by cases e)
  obtain ⟨fn, tmps, assign, body, hy, hR⟩ := hY (n - 1) pre ⟨t, A, c, hs, hok0⟩ _ hJ1 (by omega)
  have hk0 : KeepC w₀.heap.size B W (W.alloc (.cells (cells6 t A c) 25)) := (KeepC.refl _ _ _).alloc hw0 _
  have HR := Lib.hid (RoundIn.mono hR (R' := fun e W2 => (e = .returned (.bool true) ∧ J (pre ++ [⟨t, A, c, hs, hok0⟩]) W2 ∧ KeepC w₀.heap.size B W W2 ∧ W2.cell? ⟨W.heap.size, 5, none⟩ = some (.slice A t.sub.length c)) ∨ (e = .returned (.bool false) ∧ Jx (pre ++ [⟨t, A, c, hs, hok0⟩]) W2))
    (fun e W2 h => h.elim (fun ⟨he, hj, hk⟩ => .inl ⟨he, hj, hk0.trans hk, heap_cell (hk.cells _ _ _ _ hBW (heap_new W _)) 5⟩) .inr))
  clear hR
  gi_wp2_with ((try refine ⟨hdd _, ?_⟩); refine HR.out.mono ?_; clear HR; rintro e W2 (⟨rfl, hJ2, hb2, hc2⟩ | ⟨rfl, hx2⟩))
  · gi_loopw [14] (fun i wr => ∃ (k : Nat) (post : List (NodeV w₀ ok)), k ≤ t.sub.length ∧ i = .int .i64 k ∧ post.map NodeV.t = nodess (t.sub.take k) ∧ J (pre ++ ⟨t, A, c, hs, hok0⟩ :: post) wr ∧ KeepC w₀.heap.size B W wr) (fun i _ => t.sub.length - (intOf i).toNat)
    case atStart => exact ⟨0, [], by omega, rfl, rfl, hJ2, hb2⟩
    case round =>
      obtain ⟨k, post, hk, rfl, hpost, hJk, hbk⟩ := hrel
      by_cases hlt : k < t.sub.length
      · obtain ⟨b, o, A', c', rfl, he0⟩ := hs.at_ k hlt
        obtain ⟨h0, h1, h2, h3, h4, h5, _, _, _⟩ := he0.mono (hW.trans hbk.low)
        have hzk := sizes_get t.sub k hlt
        have hsk := he0.sub
        have hpl : post.length = sizes (t.sub.take k) := by rw [← nodess_length, ← hpost]; simp
        have hsl := sizes_take_get t.sub k hlt
        have hJb : J (pre ++ ⟨t, some ⟨b, o, none⟩, c, hs, hok0⟩ :: post) (wr.alloc (.cells (cells6 t.sub[k] A' c') 25)) := hJ _ _ _ none hJk (World.grownBy_alloc wr _ none) (fun r e => by cases e)
        have hbs := hbk.low.size
        gi_wp2_with ((try refine ⟨trivial, ?_⟩); (try refine ⟨hdd _, ?_⟩); gi_at_call 52; refine (ih (n - 1) t.sub[k] A' c' (pre ++ ⟨t, _, c, hs, hok0⟩ :: post) (wr.alloc (.cells (cells6 t.sub[k] A' c') 25)) (by omega) (by omega) hsk (fun x hx => Hok.out x (by rw [t.nodes_eq]; exact List.mem_cons_of_mem _ (nodess_mem hlt hx))) ((hW.trans hbk.low).alloc (by omega) _) (by simp; omega) hJb (by simp; omega)).mono ?_; rintro e W3 (⟨post2, hp2, rfl, hJ3, hk3⟩ | ⟨rfl, q, hq, hx3⟩))
        · go_roundw
          case rel => exact ⟨k + 1, post ++ post2, by omega, by go_num, by rw [nodess_take _ _ hlt]; simp [hpost, hp2], by simpa using hJ3, (hbk.alloc (by omega) _).trans hk3⟩
          case measure => simp [intOf]; omega
        · go_ret
          exact .inr ⟨rfl, ⟨t, _, c, hs, hok0⟩ :: (post ++ q), by
            rw [t.nodes_eq]
            obtain ⟨r, hr⟩ := hq
            have := nodess_split t.sub k hlt
            simp only [List.map_cons, List.map_append, hpost]
            rw [List.cons_prefix_cons]
            exact ⟨rfl, List.IsPrefix.trans ⟨r, by rw [List.append_assoc, hr]⟩ this⟩, by simpa using hx3⟩
      · gi_wp2
        go_ret
        exact .inl ⟨⟨t, A, c, hs, hok0⟩ :: post, by rw [t.nodes_eq]; simp [hpost, List.take_of_length_le (show t.sub.length ≤ k by omega)], rfl, hJk, hbk⟩
  · go_ret
    exact .inr ⟨rfl, [⟨t, A, c, hs, hok0⟩], by rw [t.nodes_eq]; simp, hx2⟩

set_option maxHeartbeats 1000000 in
theorem nodes1_in (w₀ : World) (ok : Tm → Prop) (n l B : Nat) (J Jx : List (NodeV w₀ ok) → World → Prop) (hJ : AbidesFrom B J) (t : Tm) (A : Option Addr) (c bt : Nat) (hM : t.size ≤ 1000000) (hs : Subs w₀ 0 A t.sub) (hok : ∀ x ∈ t.nodes, ok x)
    (hY : ∀ pre (x : NodeV w₀ ok) W, J pre W → pre.length < t.size → YieldAt Fence.wide (n - 1) Tryd.prog l #[x.v] W fun e W' =>
      (e = .returned (.bool true) ∧ J (pre ++ [x]) W' ∧ KeepC w₀.heap.size B W W') ∨ (e = .returned (.bool false) ∧ Jx (pre ++ [x]) W'))
    (W : World) (hW : Below w₀.heap.size w₀ W) (hBW : B ≤ W.heap.size) (hbt : W.heap[bt]? = some (.cells (cells6 t A c) 25 (0, 0))) (h0 : J [] W) :
    CallsIn Fence.wide n Tryd.prog 51 #[.func (.yield l) #[] #[], .pointer (some ⟨bt, 0, none⟩)] W fun e W' => (∃ v, e = .returned v) ∧
      ((∃ ys : List (NodeV w₀ ok), ys.map NodeV.t = t.nodes ∧ J ys W') ∨ (∃ pre : List (NodeV w₀ ok), pre.map NodeV.t <+: t.nodes ∧ Jx pre W')) := by
  have hp := visit_in w₀ ok l t.size B J Jx hJ (fun m pre x W hj hl => YieldAt.anyDepth rfl m (hY pre x W hj hl)) t.size (n - 1) t A c [] W (Nat.le_refl _) hM hs hok hW hBW h0 (by simp)
  have c0 := heap_cell hbt 0
  have c1 := heap_cell hbt 1
  have c2 := heap_cell hbt 2
  have c3 := heap_cell hbt 3
  have c4 := heap_cell hbt 4
  have c5 := heap_cell hbt 5
  simp only [cells6, List.getElem?_toArray, List.getElem?_cons_zero, List.getElem?_cons_succ] at c0 c1 c2 c3 c4 c5
  have Hp := Lib.hid hp
  clear hp hY hbt hok
  refine callsIn_of_wp Tryd.func51 rfl trivial ?_ rfl
  simp only [Tryd.ntmps51, List.size_toArray, List.length_cons, List.length_nil, Nat.reduceAdd, Nat.reduceSub, Array.replicate_succ, Array.replicate_zero, List.push_toArray, List.append_toArray, List.nil_append, List.cons_append]
  gi_wp2_with ((try refine ⟨trivial, ?_⟩); (try refine ⟨hdd _, ?_⟩); gi_at_call 52; refine Hp.out.mono ?_; clear Hp; rintro e W1 (⟨post, hp1, rfl, hJ1, _⟩ | ⟨rfl, q, hq, hx⟩))
  · go_end0
    exact ⟨⟨_, rfl⟩, .inl ⟨post, hp1, by simpa using hJ1⟩⟩
  · go_end0
    exact ⟨⟨_, rfl⟩, .inr ⟨q, hq, by simpa using hx⟩⟩

theorem nodes_calls (t : Tm) (A : Option Addr) (c : Nat) (w : World) :
    Calls Tryd.prog 38 #[tv t A c] w fun e w' => e = .returned (.func (.func 51) #[] #[.pointer (some ⟨w.heap.size, 0, none⟩)]) ∧ w.alloc (.cells (cells6 t A c) 25) = w' := by
  go_enter Tryd.func38, Tryd.ntmps38
  go_wp2
  go_ret
  exact ⟨rfl, rfl⟩
end Go.Proofs.YthaocbfmdcmkkaaDoor.K
