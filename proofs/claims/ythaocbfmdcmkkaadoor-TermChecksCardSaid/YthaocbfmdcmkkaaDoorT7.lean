/- The law for 'for x := range nodes(t) { .. }'. -/
import Derived.Test.YthaocbfmdcmkkaaDoorT6
set_option linter.unusedVariables false
namespace Go.Proofs.YthaocbfmdcmkkaaDoor.K
open Go.RowKit Go.Shelf
attribute [local go_sem] Oper.semAt_some

theorem heap_new' {w : World} {o : Obj} {b : Nat} (h : b = w.heap.size) : (w.alloc o).heap[b]? = some o := by subst h; exact heap_new w o
theorem heap_set1 {w : World} {b : Nat} {v : Value} {T : TypeId} {f : Nat × Nat} (h : w.heap[b]? = some (.cells #[v] T f)) (u : Value) : (w.setCell ⟨b, 0, none⟩ u).heap[b]? = some (.cells #[u] T f) := by
  simp [World.setCell, Array.getElem?_modify, h]

theorem boxAt {w : World} {b : Nat} {v : Value} {T : TypeId} (h : w.heap[b]? = some (.cells #[v] T (0, 0))) : w.cell? ⟨b, 0, none⟩ = some v ∧ w.frozen? ⟨b, 0, none⟩ = false ∧ b < w.heap.size := ⟨heap_cell h 0, heap_frozen h 0, heap_lt h⟩
theorem box6At {w : World} {b : Nat} {t : Tm} {A : Option Addr} {c : Nat} {T : TypeId} (hh : w.heap[b]? = some (.cells (cells6 t A c) T (0, 0))) :
    w.cell? ⟨b, 0, none⟩ = some (.int .u8 t.kind) ∧ w.cell? ⟨b, 1, none⟩ = some (.int .i64 t.width) ∧ w.cell? ⟨b, 2, none⟩ = some (.int .u64 t.bits) ∧
    w.cell? ⟨b, 3, none⟩ = some (.string t.name) ∧ w.cell? ⟨b, 4, none⟩ = some (.int .i64 t.low) ∧ w.cell? ⟨b, 5, none⟩ = some (.slice A t.sub.length c) ∧ b < w.heap.size :=
  ⟨heap_cell hh 0, heap_cell hh 1, heap_cell hh 2, heap_cell hh 3, heap_cell hh 4, heap_cell hh 5, heap_lt hh⟩
theorem Ext.put {w W : World} (h : Ext w W) {D : Nat} (hD : w.heap.size ≤ D) (o : Obj) : Ext w (W.putObj D o) := h.grown (grownBy_putObj' W D o) (fun k e => by cases e; exact hD)

/-- How the body of such a loop may be left. -/
def nodePost (lo hi : Nat) (I : List Tm → World → Prop) (Ix : List Tm → World → Prop) (pre : List Tm) (W : World) : Exit → Act → World → Prop
  | .normal, _, W' => Keep lo hi W W' ∧ I pre W'
  | .ret, _, W' => Keep lo hi W W' ∧ Ix pre W'
  | _, _, _ => False

theorem range_nodes {g : Operand} {p : Tmp} {body : Code} {Q : Exit → Act → World → Prop} {a : Act} {w₀ w : World} {n : Nat} (t : Tm) (A : Option Addr) (c bt : Nat)
    (hg : a.eval g = .func (.func 51) #[] #[.pointer (some ⟨bt, 0, none⟩)]) (hbt : w.heap[bt]? = some (.cells (cells6 t A c) 25 (0, 0)))
    (hw : Ext w₀ w) (hs : Subs w₀ 0 A t.sub) (hM : t.size ≤ 1000000) (ok : Tm → Prop) (hok : ∀ x ∈ t.nodes, ok x)
    (I : List Tm → World → Prop) (Ix : List Tm → World → Prop)
    (hI : ∀ pre W W', I pre W → (∀ k, w₀.heap.size ≤ k → k < w.heap.size → W'.heap[k]? = W.heap[k]?) → I pre W')
    (hIx : ∀ pre W W', Ix pre W → (∀ k, w₀.heap.size ≤ k → k < w.heap.size → W'.heap[k]? = W.heap[k]?) → Ix pre W')
    (h0 : I [] w)
    (hbody : ∀ l pre (x : Tm) A' c' W, ok x → pre.length < t.size → Ext w₀ W → w.heap.size ≤ W.heap.size → Subs w₀ 0 A' x.sub → I pre W →
      body.wpIn (Fence.wide.inRound l) n Tryd.prog (nodePost w₀.heap.size w.heap.size I Ix (pre ++ [x]) W) { tmps := a.tmps.setIfInBounds p (tv x A' c'), defers := [] } W)
    (hdone : ∀ D W, w.heap.size ≤ D → I t.nodes W → Ext w₀ W → W.heap[D]? = some (.deferred (some [])) → Q .normal { a with defers := { target := .collected D, args := #[] } :: a.defers } W)
    (hstop : ∀ D pre W, w.heap.size ≤ D → pre <+: t.nodes → Ix pre W → Ext w₀ W → W.heap[D]? = some (.deferred (some [])) → Code.ret.wpIn Fence.wide (n + 2) Tryd.prog Q { a with defers := { target := .collected D, args := #[] } :: a.defers } W) :
    (Code.rangeFunc g #[p] Code.skip body).wpIn Fence.wide (n + 2) Tryd.prog Q a w := by
  have hseq : SeqStopsK Fence.wide (n + 2 - 1) Tryd.prog 51 #[.pointer (some ⟨bt, 0, none⟩)] (fun x : NodeV w₀ ok => #[x.v]) (KeepC w₀.heap.size w.heap.size) (fun xs => xs.map NodeV.t = t.nodes) (fun pre => pre.map NodeV.t <+: t.nodes) t.size w := by
    intro l J Jx W hW hJ hJx hY hJ0
    have hJ' : AbidesFrom W.heap.size J := hJ
    exact nodes1_in w₀ ok (n + 2 - 1) l W.heap.size J Jx hJ' t A c bt hM hs hok
      (fun pre x W1 hj hl => by
        obtain ⟨fn, tmps, assign, body, hy, hR⟩ := hY pre x W1 hj hl
        refine ⟨fn, tmps, assign, body, hy, hR.mono fun e W' h => h.imp (fun ⟨h1, h2, h3⟩ => ⟨h1, h2, h3.low, fun k c e f hk => h3.cells k c e f (Nat.le_trans hW.size hk)⟩) id⟩)
      W (hw.trans hW).b (Nat.le_refl _) ((hW.block bt (heap_lt hbt)).trans hbt) hJ0
  have own : ∀ (P : List Tm → World → Prop), (∀ pre W W', P pre W → (∀ k, w₀.heap.size ≤ k → k < w.heap.size → W'.heap[k]? = W.heap[k]?) → P pre W') →
      OwnFrom w.heap.size (fun (pre : List (NodeV w₀ ok)) W => P (pre.map NodeV.t) W ∧ Ext w₀ W ∧ w.heap.size ≤ W.heap.size) := by
    intro P hP pre W W' row hs hg hr
    refine ⟨hP _ _ _ hs.1 fun k h1 h2 => hg.block k (Nat.lt_of_lt_of_le h2 hs.2.2) (fun e => by have := (hr k e.symm).1; omega), hs.2.1.grown hg (fun k e => by have := (hr k e).1; have := hw.sz; omega), Nat.le_trans hs.2.2 hg.size⟩
  refine wpIn_rangeFunc_ownG (F := Fence.wide) (n := n + 2) rfl (by omega) hg trivial (enters_of Tryd.func51 (by kernel_rfl) rfl) hseq (fun h k => h.trans k)
    (fun W l o o' hl ho hc _ => keepC_b W l o o' hl hw.sz ho hc) (Below.refl _ _) (fun _ => rfl)
    (fun pre W => I (pre.map NodeV.t) W ∧ Ext w₀ W ∧ w.heap.size ≤ W.heap.size) (fun c pre W => c = .ret ∧ (Ix (pre.map NodeV.t) W ∧ Ext w₀ W ∧ w.heap.size ≤ W.heap.size))
    (own I hI) (fun c pre W W' row hs hg hr => ⟨hs.1, own Ix hIx pre W W' row hs.2 hg hr⟩) ⟨h0, hw, Nat.le_refl _⟩ (fun x => { tmps := a.tmps.setIfInBounds p x.v, defers := [] }) ?assign ?body ?done ?stop
  case assign =>
    intro l x W K hK
    gi_wp2
    have e : Array.foldl (fun t x => t.setIfInBounds x.fst x.snd) a.tmps (#[p].zip #[x.v]) = a.tmps.setIfInBounds p x.v := by simp
    rw [e]; exact hK
  case body =>
    rintro l pre x W ⟨hi, hx, hz⟩ hlen
    refine wpIn_mono (hbody l (pre.map NodeV.t) x.t x.A x.c W x.hok (by simpa using hlen) hx hz x.hs hi) ?_
    rintro e a' W' hp
    cases e with
    | normal => exact ⟨hp.1.from, hp.1.keepC, by simpa using hp.2, ⟨hp.1.low.os.trans hx.b.os, hp.1.low.tape.trans hx.b.tape, hp.1.low.output.trans hx.b.output, Nat.le_trans hx.sz hp.1.low.size, fun k hk => (hp.1.low.block k hk).trans (hx.b.block k hk)⟩, Nat.le_trans hz hp.1.low.size⟩
    | ret => exact ⟨hp.1.from, rfl, by simpa using hp.2, ⟨hp.1.low.os.trans hx.b.os, hp.1.low.tape.trans hx.b.tape, hp.1.low.output.trans hx.b.output, Nat.le_trans hx.sz hp.1.low.size, fun k hk => (hp.1.low.block k hk).trans (hx.b.block k hk)⟩, Nat.le_trans hz hp.1.low.size⟩
    | exit id => exact hp.elim
    | goto t => exact hp.elim
    | panic ch => exact hp.elim
    | outgrown => exact hp.elim
  case done =>
    rintro D xs W hD hS ⟨hi, hx, _⟩ hk
    rw [hS] at hi
    exact hdone D W hD hi hx hk
  case stop =>
    rintro D c pre W hD hS ⟨rfl, hi, hx, _⟩ hk
    exact hstop D _ W hD hS hi hx hk

/-- The same where the loop's variable is boxed. -/
theorem range_nodesB {g : Operand} {p q : Tmp} {assign body : Code} {Q : Exit → Act → World → Prop} {a : Act} {w₀ w : World} {n : Nat} (t : Tm) (A : Option Addr) (c bt : Nat)
    (hg : a.eval g = .func (.func 51) #[] #[.pointer (some ⟨bt, 0, none⟩)]) (hbt : w.heap[bt]? = some (.cells (cells6 t A c) 25 (0, 0)))
    (hw : Ext w₀ w) (hs : Subs w₀ 0 A t.sub) (hM : t.size ≤ 1000000) (ok : Tm → Prop) (hok : ∀ x ∈ t.nodes, ok x)
    (I : List Tm → World → Prop) (Ix : List Tm → World → Prop)
    (hI : ∀ pre W W', I pre W → (∀ k, w₀.heap.size ≤ k → k < w.heap.size → W'.heap[k]? = W.heap[k]?) → I pre W')
    (hIx : ∀ pre W W', Ix pre W → (∀ k, w₀.heap.size ≤ k → k < w.heap.size → W'.heap[k]? = W.heap[k]?) → Ix pre W')
    (h0 : I [] w)
    (hassign : ∀ l (x : Tm) A' c' W (K : Act → World → Prop), K { tmps := (a.tmps.setIfInBounds p (tv x A' c')).setIfInBounds q (.pointer (some ⟨W.heap.size, 0, none⟩)), defers := [] } (W.alloc (.cells (cells6 x A' c') 25)) →
      assign.wpIn (Fence.wide.inRound l) n Tryd.prog (Exit.then K (fun _ _ _ => False)) { tmps := a.tmps.setIfInBounds p (tv x A' c'), defers := [] } W)
    (hbody : ∀ l pre (x : Tm) A' c' Bx W, ok x → pre.length < t.size → Ext w₀ W → w.heap.size ≤ W.heap.size → Subs w₀ 0 A' x.sub → I pre W → w.heap.size ≤ Bx → W.heap[Bx]? = some (.cells (cells6 x A' c') 25 (0, 0)) →
      body.wpIn (Fence.wide.inRound l) n Tryd.prog (nodePost w₀.heap.size w.heap.size I Ix (pre ++ [x]) W) { tmps := (a.tmps.setIfInBounds p (tv x A' c')).setIfInBounds q (.pointer (some ⟨Bx, 0, none⟩)), defers := [] } W)
    (hdone : ∀ D W, w.heap.size ≤ D → I t.nodes W → Ext w₀ W → W.heap[D]? = some (.deferred (some [])) → Q .normal { a with defers := { target := .collected D, args := #[] } :: a.defers } W)
    (hstop : ∀ D pre W, w.heap.size ≤ D → pre <+: t.nodes → Ix pre W → Ext w₀ W → W.heap[D]? = some (.deferred (some [])) → Code.ret.wpIn Fence.wide (n + 2) Tryd.prog Q { a with defers := { target := .collected D, args := #[] } :: a.defers } W) :
    (Code.rangeFunc g #[p] assign body).wpIn Fence.wide (n + 2) Tryd.prog Q a w := by
  have hseq : SeqStopsK Fence.wide (n + 2 - 1) Tryd.prog 51 #[.pointer (some ⟨bt, 0, none⟩)] (fun x : NodeV w₀ ok => #[x.v]) (KeepC w₀.heap.size w.heap.size) (fun xs => xs.map NodeV.t = t.nodes) (fun pre => pre.map NodeV.t <+: t.nodes) t.size w := by
    intro l J Jx W hW hJ hJx hY hJ0
    have hJ' : AbidesFrom W.heap.size J := hJ
    exact nodes1_in w₀ ok (n + 2 - 1) l W.heap.size J Jx hJ' t A c bt hM hs hok
      (fun pre x W1 hj hl => by
        obtain ⟨fn, tmps, assign, body, hy, hR⟩ := hY pre x W1 hj hl
        refine ⟨fn, tmps, assign, body, hy, hR.mono fun e W' h => h.imp (fun ⟨h1, h2, h3⟩ => ⟨h1, h2, h3.low, fun k c e f hk => h3.cells k c e f (Nat.le_trans hW.size hk)⟩) id⟩)
      W (hw.trans hW).b (Nat.le_refl _) ((hW.block bt (heap_lt hbt)).trans hbt) hJ0
  have own : ∀ (P : List Tm → World → Prop), (∀ pre W W', P pre W → (∀ k, w₀.heap.size ≤ k → k < w.heap.size → W'.heap[k]? = W.heap[k]?) → P pre W') →
      OwnFrom w.heap.size (fun (pre : List (NodeV w₀ ok)) W => P (pre.map NodeV.t) W ∧ Ext w₀ W ∧ w.heap.size ≤ W.heap.size) := by
    intro P hP pre W W' row hs hg hr
    refine ⟨hP _ _ _ hs.1 fun k h1 h2 => hg.block k (Nat.lt_of_lt_of_le h2 hs.2.2) (fun e => by have := (hr k e.symm).1; omega), hs.2.1.grown hg (fun k e => by have := (hr k e).1; have := hw.sz; omega), Nat.le_trans hs.2.2 hg.size⟩
  refine wpIn_rangeFunc_ownH (F := Fence.wide) (n := n + 2) rfl (by omega) hg trivial (enters_of Tryd.func51 (by kernel_rfl) rfl) hseq (fun h k => h.trans k)
    (fun W l o o' hl ho hc _ => keepC_b W l o o' hl hw.sz ho hc) (Below.refl _ _) (fun _ => rfl)
    (fun pre W => I (pre.map NodeV.t) W ∧ Ext w₀ W ∧ w.heap.size ≤ W.heap.size) (fun c pre W => c = .ret ∧ (Ix (pre.map NodeV.t) W ∧ Ext w₀ W ∧ w.heap.size ≤ W.heap.size))
    (own I hI) (fun c pre W W' row hs hg hr => ⟨hs.1, own Ix hIx pre W W' row hs.2 hg hr⟩) ⟨h0, hw, Nat.le_refl _⟩
    (fun x a' W => ∃ Bx, w.heap.size ≤ Bx ∧ W.heap[Bx]? = some (.cells (cells6 x.t x.A x.c) 25 (0, 0)) ∧ a' = { tmps := (a.tmps.setIfInBounds p x.v).setIfInBounds q (.pointer (some ⟨Bx, 0, none⟩)), defers := [] }) ?hAx ?assign ?body ?done ?stop
  case hAx =>
    rintro x a' _ W W' row ⟨Bx, h1, h2, h3⟩ hg hr
    refine ⟨Bx, h1, ?_, h3⟩
    rw [hg.block Bx (heap_lt h2) (fun e => by obtain ⟨_, o, ho, hc⟩ := hr Bx e.symm; rw [h2] at ho; cases ho; cases hc)]
    exact h2
  case assign =>
    rintro l pre x W K ⟨hi, hx, hz⟩ hK
    have e : Array.foldl (fun t x => t.setIfInBounds x.fst x.snd) a.tmps (#[p].zip #[x.v]) = a.tmps.setIfInBounds p x.v := by simp
    rw [e]
    refine hassign l x.t x.A x.c W K (hK _ _ ⟨by simp, fun k o _ hk _ => ?_⟩ ((KeepC.refl _ _ W).alloc hx.sz _) ⟨hI _ _ _ hi fun k h1 h2 => ?_, hx.alloc _, by simp; omega⟩ ⟨W.heap.size, hz, heap_new W _, rfl⟩)
    · exact (Below.heap_alloc W _ k (heap_lt hk)).trans hk
    · exact Below.heap_alloc W _ k (Nat.lt_of_lt_of_le h2 hz)
  case body =>
    rintro l pre x a' W _ _ ⟨hi, hx, hz⟩ ⟨Bx, h1, h2, rfl⟩ hlen
    refine wpIn_mono (hbody l (pre.map NodeV.t) x.t x.A x.c Bx W x.hok (by simpa using hlen) hx hz x.hs hi h1 h2) ?_
    rintro e a' W' hp
    cases e with
    | normal => exact ⟨hp.1.from, hp.1.keepC, by simpa using hp.2, ⟨hp.1.low.os.trans hx.b.os, hp.1.low.tape.trans hx.b.tape, hp.1.low.output.trans hx.b.output, Nat.le_trans hx.sz hp.1.low.size, fun k hk => (hp.1.low.block k hk).trans (hx.b.block k hk)⟩, Nat.le_trans hz hp.1.low.size⟩
    | ret => exact ⟨hp.1.from, rfl, by simpa using hp.2, ⟨hp.1.low.os.trans hx.b.os, hp.1.low.tape.trans hx.b.tape, hp.1.low.output.trans hx.b.output, Nat.le_trans hx.sz hp.1.low.size, fun k hk => (hp.1.low.block k hk).trans (hx.b.block k hk)⟩, Nat.le_trans hz hp.1.low.size⟩
    | exit id => exact hp.elim
    | goto t => exact hp.elim
    | panic ch => exact hp.elim
    | outgrown => exact hp.elim
  case done =>
    rintro D xs W hD hS ⟨hi, hx, _⟩ hk
    rw [hS] at hi
    exact hdone D W hD hi hx hk
  case stop =>
    rintro D c pre W hD hS ⟨rfl, hi, hx, _⟩ hk
    exact hstop D _ W hD hS hi hx hk
end Go.Proofs.YthaocbfmdcmkkaaDoor.K
