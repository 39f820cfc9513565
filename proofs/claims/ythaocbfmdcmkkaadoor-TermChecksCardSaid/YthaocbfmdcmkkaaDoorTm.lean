/- Words of my own: terms as plain trees, how a term lies in memory, and what a call leaves as it was. -/
import Derived.Below
import Derived.WalkKit
import Derived.OwnWalk
import Derived.Lib.Hide
import Derived.Outline
import Derived.KernelRfl
import Derived.Deep.Draws
import Derived.Deep.QuietTactic
import Derived.BigQuiet
import Derived.Deep.Light
import Derived.Maps.AppendAt
import Derived.Deep.AppendLies
set_option linter.unusedVariables false
namespace Go.Proofs.YthaocbfmdcmkkaaDoor.K
open Go.RowKit

/-! ### Plain trees -/
structure Tm where
  kind : Int
  width : Int
  bits : Int
  name : ByteArray
  low : Int
  sub : List Tm

mutual
def Tm.depth : Tm → Nat
  | ⟨_, _, _, _, _, sub⟩ => depths sub + 1
def depths : List Tm → Nat
  | [] => 0
  | t :: ts => max t.depth (depths ts)
end
mutual
def Tm.size : Tm → Nat
  | ⟨_, _, _, _, _, sub⟩ => sizes sub + 1
def sizes : List Tm → Nat
  | [] => 0
  | t :: ts => t.size + sizes ts
end
mutual
def Tm.nodes : Tm → List Tm
  | ⟨k, w, b, n, l, sub⟩ => ⟨k, w, b, n, l, sub⟩ :: nodess sub
def nodess : List Tm → List Tm
  | [] => []
  | t :: ts => t.nodes ++ nodess ts
end

theorem Tm.depth_eq (t : Tm) : t.depth = depths t.sub + 1 := by cases t; rfl
theorem Tm.size_eq (t : Tm) : t.size = sizes t.sub + 1 := by cases t; rfl
theorem Tm.nodes_eq (t : Tm) : t.nodes = t :: nodess t.sub := by cases t; rfl
theorem depths_snoc (xs : List Tm) (t : Tm) : depths (xs ++ [t]) = max (depths xs) t.depth := by
  induction xs with
  | nil => simp [depths]
  | cons x xs ih => simp [depths, ih, Nat.max_assoc]
theorem sizes_append (xs ys : List Tm) : sizes (xs ++ ys) = sizes xs + sizes ys := by
  induction xs with
  | nil => simp [sizes]
  | cons x xs ih => simp [sizes, ih]; omega
theorem nodess_append (xs ys : List Tm) : nodess (xs ++ ys) = nodess xs ++ nodess ys := by
  induction xs with
  | nil => rfl
  | cons x xs ih => simp [nodess, ih]
theorem Tm.size_pos (t : Tm) : 0 < t.size := by rw [Tm.size_eq]; omega
theorem length_le_sizes (xs : List Tm) : xs.length ≤ sizes xs := by
  induction xs with
  | nil => simp [sizes]
  | cons x xs ih => have := x.size_pos; simp [sizes]; omega
theorem sizes_get (xs : List Tm) (k : Nat) (h : k < xs.length) : xs[k].size ≤ sizes xs := by
  induction xs generalizing k with
  | nil => simp at h
  | cons x xs ih =>
    cases k with
    | zero => simp [sizes]
    | succ k => have := ih k (by simpa using h); simp [sizes]; omega
theorem sizes_mem {xs : List Tm} {t : Tm} (h : t ∈ xs) : t.size ≤ sizes xs := by
  obtain ⟨k, hk, rfl⟩ := List.getElem_of_mem h
  exact sizes_get xs k hk
mutual
theorem Tm.depth_le_size : ∀ t : Tm, t.depth ≤ t.size
  | ⟨_, _, _, _, _, sub⟩ => by have := depths_le_sizes sub; simp only [Tm.depth, Tm.size]; omega
theorem depths_le_sizes : ∀ xs : List Tm, depths xs ≤ sizes xs
  | [] => by simp [depths]
  | t :: ts => by have := Tm.depth_le_size t; have := depths_le_sizes ts; simp only [depths, sizes]; omega
end
mutual
theorem Tm.nodes_length : ∀ t : Tm, t.nodes.length = t.size
  | ⟨_, _, _, _, _, sub⟩ => by have := nodess_length sub; simp only [Tm.nodes, Tm.size, List.length_cons]; omega
theorem nodess_length : ∀ xs : List Tm, (nodess xs).length = sizes xs
  | [] => rfl
  | t :: ts => by have := Tm.nodes_length t; have := nodess_length ts; simp only [nodess, sizes, List.length_append]; omega
end
theorem take_succ' {α : Type} (xs : List α) (k : Nat) (h : k < xs.length) : xs.take (k + 1) = xs.take k ++ [xs[k]] := List.take_succ_eq_append_getElem h
theorem depths_take (xs : List Tm) (k : Nat) (h : k < xs.length) : depths (xs.take (k + 1)) = max (depths (xs.take k)) xs[k].depth := by rw [take_succ' _ _ h, depths_snoc]
theorem nodess_take (xs : List Tm) (k : Nat) (h : k < xs.length) : nodess (xs.take (k + 1)) = nodess (xs.take k) ++ xs[k].nodes := by rw [take_succ' _ _ h, nodess_append]; simp [nodess]
theorem sizes_take (xs : List Tm) (k : Nat) (h : k < xs.length) : sizes (xs.take (k + 1)) = sizes (xs.take k) + xs[k].size := by rw [take_succ' _ _ h, sizes_append]; simp [sizes]
theorem nodess_split (xs : List Tm) (k : Nat) (h : k < xs.length) : nodess (xs.take k) ++ xs[k].nodes <+: nodess xs := by
  rw [← nodess_take _ _ h]
  exact ⟨nodess (xs.drop (k + 1)), by rw [← nodess_append, List.take_append_drop]⟩
theorem sizes_take_le (xs : List Tm) (k : Nat) : sizes (xs.take k) ≤ sizes xs := by
  have h := sizes_append (xs.take k) (xs.drop k)
  rw [List.take_append_drop] at h; omega
theorem sizes_take_get (xs : List Tm) (k : Nat) (h : k < xs.length) : sizes (xs.take k) + xs[k].size ≤ sizes xs := by
  have := sizes_take_le xs (k + 1)
  rwa [sizes_take _ _ h] at this

/-! ### What a call leaves as it was -/
/-- All that lay in w lies in w'. -/
def Ext (w w' : World) : Prop := Below w.heap.size w w'
theorem Ext.b {w w' : World} (h : Ext w w') : Below w.heap.size w w' := h
theorem Ext.refl (w : World) : Ext w w := Below.refl _ _
theorem Ext.trans {a b c : World} (h : Ext a b) (k : Ext b c) : Ext a c := Below.trans h (Below.mono k h.size)
theorem Ext.alloc {a b : World} (h : Ext a b) (o : Obj) : Ext a (b.alloc o) := Below.alloc h h.size o
theorem Ext.drew {a b : World} (h : Ext a b) : Ext a b.drew := Below.drew h
theorem Ext.drewN {a b : World} (h : Ext a b) (n : Nat) : Ext a (b.drewN n) := ⟨h.os, h.tape, h.output, h.size, h.block⟩
theorem Ext.set {a b : World} (h : Ext a b) {p : Addr} (hp : a.heap.size ≤ p.block) (v : Value) : Ext a (b.setCell p v) := Below.setCell h hp v
theorem Ext.sz {a b : World} (h : Ext a b) : a.heap.size ≤ b.heap.size := Below.size h
theorem Ext.grown {a b c : World} {row : Option Nat} (h : Ext a b) (hg : b.grownBy c row) (hr : ∀ k, row = some k → a.heap.size ≤ k) : Ext a c := Below.grown h hg h.size hr
theorem Ext.cell {w w' : World} (hb : Ext w w') {p : Addr} {v : Value} (h : w.cell? p = some v) : w'.cell? p = some v :=
  (Below.cell hb (World.block_lt_of_cell? w p h)).trans h
theorem Ext.heap {w w' : World} (hb : Ext w w') {b : Nat} {o : Obj} (h : w.heap[b]? = some o) : w'.heap[b]? = some o :=
  (Below.block hb b (Array.getElem?_eq_some_iff.1 h).1).trans h
theorem Ext.of_grown {a b : World} (hg : a.grownBy b none) : Ext a b := ⟨hg.os, hg.tape, hg.output, hg.size, fun k hk => hg.block k hk (by simp)⟩
theorem Ext.grownBy {a b : World} (h : Ext a b) (row : Option Nat) : a.grownBy b row := ⟨h.os, h.tape, h.output, h.size, fun k hk _ => h.block k hk⟩
theorem heap_cell {w : World} {b : Nat} {cs : Array Value} {e : TypeId} {f : Nat × Nat} (h : w.heap[b]? = some (.cells cs e f)) (i : Nat) : w.cell? ⟨b, i, none⟩ = cs[i]? := by
  simp [World.cell?, h]
theorem heap_frozen {w : World} {b : Nat} {cs : Array Value} {e : TypeId} (h : w.heap[b]? = some (.cells cs e (0, 0))) (i : Nat) : w.frozen? ⟨b, i, none⟩ = false := by
  simp [World.frozen?, h]
theorem heap_new (w : World) (o : Obj) : (w.alloc o).heap[w.heap.size]? = some o := heap_alloc_new w o
theorem heap_lt {w : World} {b : Nat} {o : Obj} (h : w.heap[b]? = some o) : b < w.heap.size := (Array.getElem?_eq_some_iff.1 h).1
theorem heap_drewN {w : World} {n : Nat} {b : Nat} : (w.drewN n).heap[b]? = w.heap[b]? := rfl

theorem qs {P : Program} {f : FuncId} {args : Array Value} {w : World} {n : Nat} {v : Value}
    (h : Calls P f args (w.drewN n) fun e w' => e = .returned v ∧ w.drewN n = w') : Calls P f args (w.drewN n) fun e w'' => e = .returned v ∧ ∃ m, w'' = w.drewN m :=
  h.mono fun _ _ ⟨he, hm⟩ => ⟨he, n, hm.symm⟩
theorem ret_int {k : IntKind} {a b : Int} (h : a = b) : Ending.returned (.int k a) = .returned (.int k b) := by rw [h]
theorem ret_bool {a b : Bool} (h : a = b) : Ending.returned (.bool a) = .returned (.bool b) := by rw [h]

/-! ### Terms in memory -/
inductive Subs (w : World) (lo : Nat) : Option Addr → List Tm → Prop
  | nil (A) : Subs w lo A []
  | cons (b o : Nat) (A : Option Addr) (c : Nat) (t : Tm) (rest : List Tm) : lo ≤ b → (lo = 0 ∨ ∀ j, w.frozen? ⟨b, j, none⟩ = false) →
      w.cell? ⟨b, o, none⟩ = some (.int .u8 t.kind) → w.cell? ⟨b, o + 1, none⟩ = some (.int .i64 t.width) → w.cell? ⟨b, o + 2, none⟩ = some (.int .u64 t.bits) →
      w.cell? ⟨b, o + 3, none⟩ = some (.string t.name) → w.cell? ⟨b, o + 4, none⟩ = some (.int .i64 t.low) → w.cell? ⟨b, o + 5, none⟩ = some (.slice A t.sub.length c) →
      Subs w lo A t.sub → Subs w lo (some ⟨b, o + 6, none⟩) rest → Subs w lo (some ⟨b, o, none⟩) (t :: rest)

abbrev tv (t : Tm) (A : Option Addr) (c : Nat) : Value :=
  .agg #[.int .u8 t.kind, .int .i64 t.width, .int .u64 t.bits, .string t.name, .int .i64 t.low, .slice A t.sub.length c]
abbrev cells6 (t : Tm) (A : Option Addr) (c : Nat) : Array Value := #[.int .u8 t.kind, .int .i64 t.width, .int .u64 t.bits, .string t.name, .int .i64 t.low, .slice A t.sub.length c]

/-- A boxed term, later on. -/
theorem box6 {w w2 : World} {t : Tm} {A : Option Addr} {c : Nat} {T : TypeId} (h : Ext (w.alloc (.cells (cells6 t A c) T)) w2) :
    w2.cell? ⟨w.heap.size, 0, none⟩ = some (.int .u8 t.kind) ∧ w2.cell? ⟨w.heap.size, 1, none⟩ = some (.int .i64 t.width) ∧ w2.cell? ⟨w.heap.size, 2, none⟩ = some (.int .u64 t.bits) ∧
    w2.cell? ⟨w.heap.size, 3, none⟩ = some (.string t.name) ∧ w2.cell? ⟨w.heap.size, 4, none⟩ = some (.int .i64 t.low) ∧ w2.cell? ⟨w.heap.size, 5, none⟩ = some (.slice A t.sub.length c) ∧ w.heap.size < w2.heap.size := by
  have hh := h.heap (heap_new w _)
  refine ⟨heap_cell hh 0, heap_cell hh 1, heap_cell hh 2, heap_cell hh 3, heap_cell hh 4, heap_cell hh 5, heap_lt hh⟩
/-- A box of one cell, later on. -/
theorem box1 {w w2 : World} {v : Value} {T : TypeId} (h : Ext (w.alloc (.cells #[v] T)) w2) : w2.cell? ⟨w.heap.size, 0, none⟩ = some v ∧ w2.frozen? ⟨w.heap.size, 0, none⟩ = false ∧ w.heap.size < w2.heap.size := by
  have hh := h.heap (heap_new w _)
  exact ⟨heap_cell hh 0, heap_frozen hh 0, heap_lt hh⟩
theorem Subs.mono {w w' : World} {lo : Nat} {A : Option Addr} {xs : List Tm} (h : Subs w lo A xs) (hb : Ext w w') : Subs w' lo A xs := by
  induction h with
  | nil A => exact .nil A
  | cons b o A c t rest hlo hf h0 h1 h2 h3 h4 h5 _ _ ih1 ih2 =>
    refine .cons b o A c t rest hlo (hf.imp id fun hf j => ?_) (hb.cell h0) (hb.cell h1) (hb.cell h2) (hb.cell h3) (hb.cell h4) (hb.cell h5) ih1 ih2
    exact (Below.frozen (p := ⟨b, j, none⟩) hb.b (show b < w.heap.size from World.block_lt_of_cell? w _ h0)).trans (hf j)
theorem Subs.low {w : World} {lo : Nat} {A : Option Addr} {xs : List Tm} (h : Subs w lo A xs) : Subs w 0 A xs := by
  induction h with
  | nil A => exact .nil A
  | cons b o A c t rest hlo hf h0 h1 h2 h3 h4 h5 _ _ ih1 ih2 => exact .cons b o A c t rest (Nat.zero_le _) (.inl rfl) h0 h1 h2 h3 h4 h5 ih1 ih2
theorem Subs.lower {w : World} {lo lo' : Nat} {A : Option Addr} {xs : List Tm} (h : Subs w lo A xs) (hl : lo' ≤ lo) : Subs w lo' A xs := by
  induction h with
  | nil A => exact .nil A
  | cons b o A c t rest hlo hf h0 h1 h2 h3 h4 h5 _ _ ih1 ih2 => exact .cons b o A c t rest (Nat.le_trans hl hlo) (hf.imp (fun e => by omega) id) h0 h1 h2 h3 h4 h5 ih1 ih2

/-- One element of a row of terms. -/
structure ElemAt (w : World) (lo b o : Nat) (t : Tm) (A : Option Addr) (c : Nat) : Prop where
  c0 : w.cell? ⟨b, o, none⟩ = some (.int .u8 t.kind)
  c1 : w.cell? ⟨b, o + 1, none⟩ = some (.int .i64 t.width)
  c2 : w.cell? ⟨b, o + 2, none⟩ = some (.int .u64 t.bits)
  c3 : w.cell? ⟨b, o + 3, none⟩ = some (.string t.name)
  c4 : w.cell? ⟨b, o + 4, none⟩ = some (.int .i64 t.low)
  c5 : w.cell? ⟨b, o + 5, none⟩ = some (.slice A t.sub.length c)
  sub : Subs w lo A t.sub
  hlo : lo ≤ b
  fz : lo = 0 ∨ ∀ j, w.frozen? ⟨b, j, none⟩ = false

theorem Subs.at_ {w : World} {lo : Nat} {A : Option Addr} {xs : List Tm} (h : Subs w lo A xs) : ∀ i (hi : i < xs.length), ∃ b o A' c, A = some ⟨b, o, none⟩ ∧ ElemAt w lo b (o + i * 6) xs[i] A' c := by
  induction h with
  | nil A => intro i hi; simp at hi
  | cons b o A c t rest hlo hf h0 h1 h2 h3 h4 h5 h6 _ _ ih2 =>
    intro i hi
    cases i with
    | zero => exact ⟨b, o, A, c, rfl, by simpa using ⟨h0, h1, h2, h3, h4, h5, h6, hlo, hf⟩⟩
    | succ i =>
      obtain ⟨b', o', A', c', e, h⟩ := ih2 i (by simpa using hi)
      cases e
      refine ⟨b, o, A', c', rfl, ?_⟩
      have e : o + (i + 1) * 6 = o + 6 + i * 6 := by omega
      rw [e]; simpa using h

theorem ElemAt.mono {w w' : World} {lo b o : Nat} {t : Tm} {A : Option Addr} {c : Nat} (h : ElemAt w lo b o t A c) (hb : Ext w w') : ElemAt w' lo b o t A c :=
  ⟨hb.cell h.c0, hb.cell h.c1, hb.cell h.c2, hb.cell h.c3, hb.cell h.c4, hb.cell h.c5, h.sub.mono hb, h.hlo, h.fz.imp id fun hf j => (Below.frozen (p := ⟨b, j, none⟩) hb.b (show b < w.heap.size from World.block_lt_of_cell? w _ h.c0)).trans (hf j)⟩

/-- A row given by its elements. -/
theorem Subs.of_at {w : World} {lo b : Nat} : ∀ (xs : List Tm) (o : Nat), (∀ i (hi : i < xs.length), ∃ A c, ElemAt w lo b (o + i * 6) xs[i] A c) → Subs w lo (some ⟨b, o, none⟩) xs
  | [], o, _ => .nil _
  | t :: rest, o, h => by
    obtain ⟨A, c, h0⟩ := h 0 (by simp)
    simp only [Nat.zero_mul, Nat.add_zero, List.getElem_cons_zero] at h0
    refine .cons b o A c t rest h0.hlo h0.fz h0.c0 h0.c1 h0.c2 h0.c3 h0.c4 h0.c5 h0.sub (Subs.of_at rest (o + 6) fun i hi => ?_)
    have h1 := h (i + 1) (by simpa using hi)
    have e : o + (i + 1) * 6 = o + 6 + i * 6 := by omega
    rw [e] at h1; simpa using h1

/-! ### A row of terms of the call's own -/
/-- An element with where its parts lie. -/
structure El where
  t : Tm
  A : Option Addr
  c : Nat
def El.cells (x : El) : List Value := [.int .u8 x.t.kind, .int .i64 x.t.width, .int .u64 x.t.bits, .string x.t.name, .int .i64 x.t.low, .slice x.A x.t.sub.length x.c]
structure OwnTs (w : World) (base e lo : Nat) (v : Value) (els : List El) : Prop where
  row : w.ownsRow base e 6 v els.length (els.flatMap El.cells)
  subs : ∀ x ∈ els, ∀ W' : World, (∀ b, b < w.heap.size → some b ≠ v.ownBlock → W'.heap[b]? = w.heap[b]?) → Subs W' lo x.A x.t.sub
theorem Subs.agree {W W' : World} {lo : Nat} {A : Option Addr} {xs : List Tm} (h : Subs W lo A xs) (hW : ∀ b, lo ≤ b → b < W.heap.size → W'.heap[b]? = W.heap[b]?) : Subs W' lo A xs := by
  induction h with
  | nil A => exact .nil A
  | cons b o A c t rest hlo hf h0 h1 h2 h3 h4 h5 _ _ ih1 ih2 =>
    have hb := hW b hlo (World.block_lt_of_cell? W _ h0)
    have hc : ∀ j v, W.cell? ⟨b, j, none⟩ = some v → W'.cell? ⟨b, j, none⟩ = some v := fun j v h => (World.cell?_of_block (w := W) (a := ⟨b, j, none⟩) hb).trans h
    exact .cons b o A c t rest hlo (hf.imp id fun hf j => (World.frozen?_of_block (w := W) (a := ⟨b, j, none⟩) hb).trans (hf j)) (hc _ _ h0) (hc _ _ h1) (hc _ _ h2) (hc _ _ h3) (hc _ _ h4) (hc _ _ h5) ih1 ih2

theorem flat_get (els : List El) (i : Nat) (hi : i < els.length) (j : Nat) (hj : j < 6) : (els.flatMap El.cells)[i * 6 + j]? = (els[i].cells)[j]? := by
  induction els generalizing i with
  | nil => simp at hi
  | cons x xs ih =>
    have hl : x.cells.length = 6 := rfl
    cases i with
    | zero => simp only [Nat.zero_mul, Nat.zero_add, List.flatMap_cons, List.getElem_cons_zero]; rw [List.getElem?_append_left (by rw [hl]; exact hj)]
    | succ i =>
      simp only [List.flatMap_cons, List.getElem_cons_succ]
      rw [List.getElem?_append_right (by rw [hl]; omega), hl, ← ih i (by simpa using hi)]
      congr 1; omega

theorem OwnTs.nil (w : World) (base e lo : Nat) : OwnTs w base e lo (.slice none 0 0) [] := ⟨World.ownsRow_nil w base e 6, fun x h => by simp at h⟩
theorem OwnTs.mono {w w' : World} {base e lo : Nat} {v : Value} {els : List El} (h : OwnTs w base e lo v els) (hb : Ext w w') : OwnTs w' base e lo v els :=
  ⟨h.row.kept (hb.grownBy none) (by cases hv : v.ownBlock <;> simp), fun x hx W' hW => h.subs x hx W' fun b hlt hne => (hW b (Nat.lt_of_lt_of_le hlt hb.sz) hne).trans (hb.b.block b hlt)⟩
theorem OwnTs.slice {w : World} {base e lo : Nat} {v : Value} {els : List El} (h : OwnTs w base e lo v els) : ∃ A c, v = .slice A els.length c := by
  rcases h.row.2 with ⟨rfl, hn⟩ | ⟨g, cap, cur, rfl, _⟩
  · exact ⟨none, 0, by rw [hn]⟩
  · exact ⟨_, cap, rfl⟩
theorem OwnTs.reads {w : World} {base e lo : Nat} {A : Option Addr} {n c : Nat} {els : List El} (hlo : lo ≤ base) (h : OwnTs w base e lo (.slice A n c) els) : Subs w lo A (els.map El.t) := by
  rcases h.row.2 with ⟨h0, hn⟩ | ⟨g, cap, cur, h0, hg, hh, _⟩
  · obtain rfl : els = [] := List.eq_nil_of_length_eq_zero hn
    exact .nil _
  · cases h0
    refine Subs.of_at _ 0 fun i hi => ?_
    have hi' : i < els.length := by simpa using hi
    have hc : ∀ j, j < 6 → ∀ u, (els[i].cells)[j]? = some u → w.cell? ⟨g, 0 + i * 6 + j, none⟩ = some u := fun j hj u hu => by
      have := h.row.cells (g := g) rfl (i * 6 + j) u (by rw [flat_get els i hi' j hj]; exact hu)
      have ha : (⟨g, 0, none⟩ : Addr).add (i * 6 + j) = ⟨g, 0 + i * 6 + j, none⟩ := by unfold Addr.add; split <;> simp_all
      rwa [ha] at this
    refine ⟨els[i].A, els[i].c, ?_⟩
    simp only [List.getElem_map]
    exact ⟨hc 0 (by omega) _ rfl, hc 1 (by omega) _ rfl, hc 2 (by omega) _ rfl, hc 3 (by omega) _ rfl, hc 4 (by omega) _ rfl, hc 5 (by omega) _ rfl, h.subs _ (List.getElem_mem hi') w (fun _ _ _ => rfl), Nat.le_trans hlo hg, .inr (heap_frozen hh)⟩
theorem OwnTs.lt {w : World} {base e lo : Nat} {v : Value} {els : List El} (h : OwnTs w base e lo v els) : ∀ k, v.ownBlock = some k → base ≤ k ∧ k < w.heap.size := h.row.lt
section
variable {P : Program} {ops : Array Oper} {rest : List Oper} {o : Oper} {a : Act} {Q : Exit → Act → World → Prop}
/-- append(v, y), y a term just boxed. -/
theorem wp_append_tm {W : World} (base lo lo' : Nat) (hgd : o.guard = none) (s x : Operand) (t e : TypeId) {z : Value}
    (ho : o.op = .call { callee := .builtin .append, args := #[s, x], argTypes := #[t, t] })
    (ht : P.underlying t = some (.slice e)) (hinfo : (P.info? e).map (fun i => (i.zero, i.size, i.bytes)) = some (some z, 6, 72)) (hz : z.cells.size = 6)
    (v : Value) (els : List El) (y : El) (HO : OwnTs W base e lo v els) (hs : a.eval s = v) (hx : a.eval x = .slice (some ⟨W.heap.size, 0, none⟩) 1 1)
    (hb : base ≤ W.heap.size) (hl : els.length ≤ 1000000) (hy : Subs W lo' y.A y.t.sub) (hlo : lo ≤ lo') (hv : ∀ k, v.ownBlock = some k → k < lo')
    (h : ∀ v1 w1, OwnTs w1 base e lo v1 (els ++ [y]) → W.grownBy w1 v.ownBlock → wpList P ops Q rest (a.put o.dst v1) w1) :
    wpList P ops Q (o :: rest) a (W.alloc (.cells y.cells.toArray e)) := by
  obtain ⟨i0, hi, hzz⟩ := Option.map_eq_some_iff.1 hinfo
  simp only [Prod.mk.injEq] at hzz
  obtain ⟨hz0, hz1, hz2⟩ := hzz
  have hnb : ∀ u ∈ y.cells, u.oneCell' = true := by intro u hu; simp [El.cells] at hu; rcases hu with rfl | rfl | rfl | rfl | rfl | rfl <;> rfl
  refine wpList_append_own_at (W.alloc (.cells y.cells.toArray e)) hgd s x t ho base e i0 z 6 72 ht hi hz0 hz1 hz2 hz (by omega) v els.length (els.flatMap El.cells) hs (HO.row.alloc _) ⟨W.heap.size, 0, none⟩ 1 1 y.cells hx rfl
    (World.news_of_block (cs := y.cells.toArray) (t := e) (fr := (0, 0)) (heap_new W _)) hnb (by simp only [maxLen]; omega) (by omega) (by simp; omega) ?_
  intro v1 w1 hown hg _ hat
  have hga : W.grownBy w1 v.ownBlock := World.grownBy.trans (World.grownBy_alloc W _ _) hg
  refine h v1 w1 ⟨by simpa using hown, ?_⟩ hga
  intro q hq W' hW
  have key : ∀ b, b < W.heap.size → some b ≠ v.ownBlock → W'.heap[b]? = W.heap[b]? := fun b hlt hne => by
    refine (hW b (Nat.lt_of_lt_of_le hlt hga.size) ?_).trans (hga.block b hlt hne)
    rcases hat with hat | hat
    · rw [hat]; exact hne
    · rw [hat]; simp; omega
  rcases List.mem_append.1 hq with hq | hq
  · exact HO.subs q hq W' key
  · obtain rfl : q = y := by simpa using hq
    exact (hy.agree (W' := W') fun b h1 h2 => key b h2 (fun e => by have := hv b e.symm; omega)).lower hlo
end
end Go.Proofs.YthaocbfmdcmkkaaDoor.K
