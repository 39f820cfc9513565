/- Walks, the reference: Put. -/
import Derived.Test.YthaocbfmdcmkkaaDoorT21
import Derived.Test.YthaocbfmdcmkkaaDoorT15
import Derived.Deep.RegionHeld3
set_option linter.unusedVariables false
namespace Go.Proofs.YthaocbfmdcmkkaaDoor.K
open Go.RowKit
attribute [local go_sem ↓] Go.wp_at_zero Go.wp_at_succ

/-- All but block X stands. -/
structure Off (X : Nat) (w w' : World) : Prop where
  size : w.heap.size ≤ w'.heap.size
  heap : ∀ b, b < w.heap.size → b ≠ X → w'.heap[b]? = w.heap[b]?
theorem Off.of_ext {X : Nat} {w w' : World} (h : Ext w w') : Off X w w' := ⟨h.sz, fun b hb _ => h.b.block b hb⟩
theorem Off.trans_ext {X : Nat} {a b c : World} (h : Off X a b) (k : Ext b c) : Off X a c := ⟨Nat.le_trans h.size k.sz, fun i hi hx => (k.b.block i (Nat.lt_of_lt_of_le hi h.size)).trans (h.heap i hi hx)⟩
theorem Off.set {X : Nat} {a b : World} (h : Off X a b) (i : Nat) (v : Value) : Off X a (b.setCell ⟨X, i, none⟩ v) := ⟨by simpa using h.size, fun k hk hx => (Below.heap_setCell _ _ _ _ (by simpa using hx)).trans (h.heap k hk hx)⟩
theorem Off.cell {X : Nat} {w w' : World} (h : Off X w w') {b i : Nat} {v : Value} (hb : b ≠ X) (hc : w.cell? ⟨b, i, none⟩ = some v) : w'.cell? ⟨b, i, none⟩ = some v :=
  (World.cell?_of_block (w := w) (a := ⟨b, i, none⟩) (h.heap b (World.block_lt_of_cell? w _ hc) hb)).trans hc
/-- The six cells of a term. -/
structure Six (w : World) (b o : Nat) (t : Tm) (A : Option Addr) (c : Nat) : Prop where
  c0 : w.cell? ⟨b, o, none⟩ = some (.int .u8 t.kind)
  c1 : w.cell? ⟨b, o + 1, none⟩ = some (.int .i64 t.width)
  c2 : w.cell? ⟨b, o + 2, none⟩ = some (.int .u64 t.bits)
  c3 : w.cell? ⟨b, o + 3, none⟩ = some (.string t.name)
  c4 : w.cell? ⟨b, o + 4, none⟩ = some (.int .i64 t.low)
  c5 : w.cell? ⟨b, o + 5, none⟩ = some (.slice A t.sub.length c)
theorem ElemAt.six {w : World} {lo b o : Nat} {t : Tm} {A : Option Addr} {c : Nat} (h : ElemAt w lo b o t A c) : Six w b o t A c := ⟨h.c0, h.c1, h.c2, h.c3, h.c4, h.c5⟩
theorem Six.mono {w w' : World} {b o : Nat} {t : Tm} {A : Option Addr} {c : Nat} (h : Six w b o t A c) (hb : Ext w w') : Six w' b o t A c := ⟨hb.cell h.c0, hb.cell h.c1, hb.cell h.c2, hb.cell h.c3, hb.cell h.c4, hb.cell h.c5⟩
/-- Six stores. -/
abbrev set6 (w : World) (b o : Nat) (t : Tm) (A : Option Addr) (c : Nat) : World :=
  (((((w.setCell ⟨b, o, none⟩ (.int .u8 t.kind)).setCell ⟨b, o + 1, none⟩ (.int .i64 t.width)).setCell ⟨b, o + 2, none⟩ (.int .u64 t.bits)).setCell ⟨b, o + 3, none⟩ (.string t.name)).setCell ⟨b, o + 4, none⟩ (.int .i64 t.low)).setCell ⟨b, o + 5, none⟩ (.slice A t.sub.length c)
theorem addr_ne {b i j : Nat} (h : i ≠ j) : (⟨b, i, none⟩ : Addr) ≠ ⟨b, j, none⟩ := fun e => h (by cases e; rfl)
theorem set_other {w : World} {b i j : Nat} {v u : Value} (hc : w.cell? ⟨b, j, none⟩ = some u) (h : i ≠ j) : (w.setCell ⟨b, i, none⟩ v).cell? ⟨b, j, none⟩ = some u :=
  (World.cell?_setCell_other w _ _ _ (addr_ne h)).trans hc
theorem set_same {w : World} {b i : Nat} {v u : Value} (hc : w.cell? ⟨b, i, none⟩ = some u) : (w.setCell ⟨b, i, none⟩ v).cell? ⟨b, i, none⟩ = some v := World.cell?_setCell_same w _ _ hc
theorem set6_other {w : World} {b o j : Nat} {t : Tm} {A : Option Addr} {c : Nat} {u : Value} (hc : w.cell? ⟨b, j, none⟩ = some u) (h : j < o ∨ o + 6 ≤ j) : (set6 w b o t A c).cell? ⟨b, j, none⟩ = some u :=
  set_other (set_other (set_other (set_other (set_other (set_other hc (by omega)) (by omega)) (by omega)) (by omega)) (by omega)) (by omega)
theorem Six.other {w : World} {b o o' : Nat} {t x : Tm} {A A' : Option Addr} {c c' : Nat} (h : Six w b o t A c) (hd : o + 6 ≤ o' ∨ o' + 6 ≤ o) : Six (set6 w b o' x A' c') b o t A c :=
  ⟨set6_other h.c0 (by omega), set6_other h.c1 (by omega), set6_other h.c2 (by omega), set6_other h.c3 (by omega), set6_other h.c4 (by omega), set6_other h.c5 (by omega)⟩
theorem Six.stored {w : World} {b o : Nat} {t x : Tm} {A A' : Option Addr} {c c' : Nat} (h : Six w b o t A c) : Six (set6 w b o x A' c') b o x A' c' := by
  refine ⟨?_, ?_, ?_, ?_, ?_, ?_⟩
  · exact set_other (set_other (set_other (set_other (set_other (set_same h.c0) (by omega)) (by omega)) (by omega)) (by omega)) (by omega)
  · exact set_other (set_other (set_other (set_other (set_same (set_other h.c1 (by omega))) (by omega)) (by omega)) (by omega)) (by omega)
  · exact set_other (set_other (set_other (set_same (set_other (set_other h.c2 (by omega)) (by omega))) (by omega)) (by omega)) (by omega)
  · exact set_other (set_other (set_same (set_other (set_other (set_other h.c3 (by omega)) (by omega)) (by omega))) (by omega)) (by omega)
  · exact set_other (set_same (set_other (set_other (set_other (set_other h.c4 (by omega)) (by omega)) (by omega)) (by omega))) (by omega)
  · exact set_same (set_other (set_other (set_other (set_other (set_other h.c5 (by omega)) (by omega)) (by omega)) (by omega)) (by omega))
theorem set6_heap {w : World} {b o : Nat} {t : Tm} {A : Option Addr} {c : Nat} {k : Nat} (h : k ≠ b) : (set6 w b o t A c).heap[k]? = w.heap[k]? := by
  repeat (refine (Below.heap_setCell _ _ _ _ h).trans ?_)
  rfl
theorem set6_frozen {w : World} {b o : Nat} {t : Tm} {A : Option Addr} {c : Nat} (h : ∀ j, w.frozen? ⟨b, j, none⟩ = false) : ∀ j, (set6 w b o t A c).frozen? ⟨b, j, none⟩ = false := by
  intro j; simpa using h j
theorem puts_get (nm : ByteArray) (u : Tm) : ∀ (l : List Tm) (i : Nat) (h : i < l.length) (h' : i < (puts nm u l).length), (puts nm u l)[i] = putT nm u l[i]
  | t :: ts, 0, _, _ => rfl
  | t :: ts, i + 1, h, h' => by simp only [puts, List.getElem_cons_succ]; exact puts_get nm u ts i (by simpa using h) _
/-- How far Put has come in its copy's row. -/
def PutI (nm : ByteArray) (u : Tm) (ts : List Tm) (LO : Nat) (A1 : Option Addr) (k : Nat) (W : World) : Prop :=
  ∀ b1 o1, A1 = some ⟨b1, o1, none⟩ → ∀ i (hi : i < ts.length), (∀ j, W.frozen? ⟨b1, j, none⟩ = false) ∧
    (i < k → ∃ A' c', Six W b1 (o1 + i * 6) (putT nm u ts[i]) A' c' ∧ Subs W LO A' (putT nm u ts[i]).sub) ∧ (k ≤ i → ∃ A' c', Six W b1 (o1 + i * 6) ts[i] A' c')

theorem PutI.step {nm : ByteArray} {u : Tm} {ts : List Tm} {LO b1 o1 k c5 : Nat} {W W4 : World} {A5 : Option Addr} (h : PutI nm u ts LO (some ⟨b1, o1, none⟩) k W) (hE : Ext W W4) (hk : k < ts.length) (hb1 : b1 < LO) (hL : LO ≤ W.heap.size)
    (hs5 : Subs W4 W.heap.size A5 (putT nm u ts[k]).sub) : PutI nm u ts LO (some ⟨b1, o1, none⟩) (k + 1) (set6 W4 b1 (o1 + k * 6) (putT nm u ts[k]) A5 c5) := by
  intro b o e i hi
  cases e
  obtain ⟨hf, h1, h2⟩ := h b1 o1 rfl i hi
  have hag : ∀ {A : Option Addr} {xs : List Tm}, Subs W4 LO A xs → Subs (set6 W4 b1 (o1 + k * 6) (putT nm u ts[k]) A5 c5) LO A xs := fun hs => hs.agree fun b hb _ => set6_heap (by omega)
  refine ⟨set6_frozen fun j => (Below.frozen (p := ⟨b1, j, none⟩) hE.b (show b1 < W.heap.size by omega)).trans (hf j), fun hi1 => ?_, fun hi1 => ?_⟩
  · by_cases hik : i = k
    · subst hik
      obtain ⟨A', c', hx⟩ := h2 (Nat.le_refl _)
      exact ⟨A5, c5, (hx.mono hE).stored, hag (hs5.lower hL)⟩
    · obtain ⟨A', c', hx, hs⟩ := h1 (by omega)
      exact ⟨A', c', (hx.mono hE).other (by omega), hag (hs.mono hE)⟩
  · obtain ⟨A', c', hx⟩ := h2 (by omega)
    exact ⟨A', c', (hx.mono hE).other (by omega)⟩
theorem PutI.all {nm : ByteArray} {u : Tm} {ts : List Tm} {LO lo : Nat} {A1 : Option Addr} {W : World} (h : PutI nm u ts LO A1 ts.length W) (hA : ∀ i, i < ts.length → ∃ b o, A1 = some ⟨b, o, none⟩ ∧ lo ≤ b) (hl : lo ≤ LO) : Subs W lo A1 (puts nm u ts) := by
  cases ts with
  | nil => exact .nil _
  | cons t ts =>
    obtain ⟨b, o, rfl, hb⟩ := hA 0 (by simp)
    refine Subs.of_at _ o fun i hi => ?_
    have hi' : i < (t :: ts).length := by simpa [puts_length] using hi
    obtain ⟨hf, h1, _⟩ := h b o rfl i hi'
    obtain ⟨A', c', hx, hs⟩ := h1 hi'
    rw [puts_get nm u (t :: ts) i hi' hi]
    exact ⟨A', c', hx.c0, hx.c1, hx.c2, hx.c3, hx.c4, hx.c5, hs.lower hl, hb, .inr hf⟩

set_option maxHeartbeats 4000000 in
set_option maxRecDepth 100000 in
theorem rput_calls (u : Tm) (nm : ByteArray) (N : Nat) : ∀ (t : Tm) (A Au : Option Addr) (c cu : Nat) (w : World), t.size ≤ N → N ≤ 1000000 → u.size ≤ 1000000 → Subs w 0 A t.sub → Subs w 0 Au u.sub →
    Calls Tryd.prog 34 #[tv t A c, .string nm, tv u Au cu] w fun e w' => ∃ A' c', e = .returned (tv (putT nm u t) A' c') ∧ Subs w' w.heap.size A' (putT nm u t).sub ∧ Ext w w' := by
  induction N with
  | zero => intro t A Au c cu w h; have := t.size_pos; omega
  | succ N ih =>
  intro t A Au c cu w hd hN hu hs hsu
  have hz := t.size_eq
  have hl := length_le_sizes t.sub
  have hpt : putT nm u t = if t.kind = 2 ∧ t.name = nm then u else ⟨t.kind, t.width, t.bits, t.name, t.low, puts nm u t.sub⟩ := by cases t; rw [putT]
  by_cases hv : t.kind = 2 ∧ t.name = nm
  · rw [if_pos hv] at hpt
    rw [hpt]
    clear hpt
    obtain ⟨hk, rfl⟩ := hv
    have hk1 : (t.kind == 2) = true := by simp [hk]
    clear hk
    have e0 : Ext w (((w.alloc (.cells (cells6 t A c) 25)).alloc (.cells (cells6 u Au cu) 25)).alloc (.cells zeroCells 25)) := ((((Ext.refl w).alloc _).alloc _).alloc _)
    go_enter Tryd.func34, Tryd.ntmps34
    go_wp2_with (go_at_call 7; refine (rtwin_calls u.size u Au cu _ (Nat.le_refl _) hu (hsu.mono e0)).mono ?_; rintro e w2 ⟨A2, c2, rfl, hs2, hb2⟩; obtain ⟨z0, z1, z2, z3, z4, z5, z6, z7⟩ := zboxAt (hb2.heap (heap_new' (b := w.heap.size + 2) (by simp))))
    refine bodyPost_ret (v := tv u A2 c2) (by simp [results, Tryd.results34, go_sem, z0, z1, z2, z3, z4, z5]) rfl ⟨A2, c2, rfl, ?_, ?_⟩
    · refine (hs2.agree fun b hb _ => ?_).lower (by simp; omega)
      simp only [World.size_alloc] at hb
      repeat (refine (Below.heap_setCell _ _ _ _ (by show b ≠ w.heap.size + 1 + 1; omega)).trans ?_)
      rfl
    · repeat (refine Ext.set ?_ (by show w.heap.size ≤ w.heap.size + 1 + 1; omega) _)
      exact e0.trans hb2
  · rw [if_neg hv] at hpt
    have hk' : (t.kind == 2) = false ∨ ((t.kind == 2) = true ∧ (t.name.toList == nm.toList) = false) := by
      by_cases h1 : t.kind = 2
      · exact .inr ⟨by simp [h1], name_ne (fun h2 => hv ⟨h1, h2⟩)⟩
      · exact .inl (by simp [h1])
    clear hv
    rw [hpt]
    clear hpt
    have e0 : Ext w (((w.alloc (.cells (cells6 t A c) 25)).alloc (.cells (cells6 u Au cu) 25)).alloc (.cells zeroCells 25)) := ((((Ext.refl w).alloc _).alloc _).alloc _)
    have htw := fun W (h : Ext w W) => rtwin_calls t.size t A c W (Nat.le_refl _) (by omega) (hs.mono h)
    rcases hk' with hk1 | ⟨hk1, hk2⟩
    all_goals
      go_enter Tryd.func34, Tryd.ntmps34
      go_wp2_with (go_at_call 7; refine (htw _ (by exact e0)).mono ?_; rintro e w2 ⟨A1, c1, rfl, hs2, hb2⟩)
      have hz2 := hb2.sz
      simp only [World.size_alloc] at hz2
      obtain ⟨LO, hLO⟩ : ∃ n, n = w2.heap.size + 1 := ⟨_, rfl⟩
      have E2 : Ext w w2 := e0.trans hb2
      have hB1 := hb2.heap ((((Ext.refl _).alloc _).alloc _).heap (heap_new w (.cells (cells6 t A c) 25)))
      have hB2 := hb2.heap (((Ext.refl _).alloc _).heap (heap_new' (w := w.alloc (.cells (cells6 t A c) 25)) (b := w.heap.size + 1) (o := .cells (cells6 u Au cu) 25) (by simp)))
      have hB3 := hb2.heap (heap_new' (w := (w.alloc (.cells (cells6 t A c) 25)).alloc (.cells (cells6 u Au cu) 25)) (b := w.heap.size + 2) (o := .cells zeroCells 25) (by simp))
      simp only [World.size_alloc] at hs2
      replace hLO := Lib.hid hLO
      go_loopw [8] (fun i wr => ∃ (k : Nat), k ≤ t.sub.length ∧ i = .int .i64 k ∧ PutI nm u t.sub LO A1 k wr ∧ Ext w wr ∧ LO ≤ wr.heap.size ∧
          wr.heap[w.heap.size]? = some (.cells (cells6 t A c) 25 (0, 0)) ∧ wr.heap[w.heap.size + 1]? = some (.cells (cells6 u Au cu) 25 (0, 0)) ∧
          wr.heap[w.heap.size + 2]? = some (.cells zeroCells 25 (0, 0)) ∧ wr.heap[w2.heap.size]? = some (.cells (cells6 t A1 c1) 25 (0, 0))) (fun i _ => t.sub.length - (intOf i).toNat)
      case atStart =>
        refine ⟨0, by omega, rfl, ?_, E2.alloc _, by rw [hLO.out]; simp, ((Ext.refl _).alloc _).heap hB1, ((Ext.refl _).alloc _).heap hB2, ((Ext.refl _).alloc _).heap hB3, heap_new w2 _⟩
        rintro b1 o1 rfl
        intro i hi
        obtain ⟨b2, o2, A', c', e, he⟩ := (hs2.mono ((Ext.refl _).alloc _)).at_ i hi
        cases e
        exact ⟨he.fz.resolve_left (by omega), fun h => absurd h (by omega), fun _ => ⟨A', c', he.six⟩⟩
      case round =>
        obtain ⟨k, hk, rfl, hP, hb, hLz, hB1, hB2, hB3, hB4⟩ := hrel
        obtain ⟨q0, q1, q2, q3, q4, q5, q6⟩ := box6At hB1
        obtain ⟨r0, r1, r2, r3, r4, r5, r6⟩ := box6At hB2
        obtain ⟨p0, p1, p2, p3, p4, p5, p6⟩ := box6At hB4
        by_cases hlt : k < t.sub.length
        · obtain ⟨b, o, A', c', rfl, he0⟩ := hs.at_ k hlt
          obtain ⟨h0, h1, h2, h3, h4, h5, hsub, _, _⟩ := he0
          obtain ⟨b1, o1, A3, c3, rfl, he1⟩ := hs2.at_ k hlt
          have hlo1 := he1.hlo
          have hlo2 : w.heap.size ≤ b1 := by omega
          have hlt1 : b1 < w2.heap.size := World.block_lt_of_cell? w2 _ he1.c0
          have hlt0 : b < w.heap.size := World.block_lt_of_cell? w _ h0
          obtain ⟨hfz, _, hsx⟩ := hP b1 o1 rfl k hlt
          obtain ⟨A4, c4, hsix⟩ := hsx (Nat.le_refl _)
          obtain ⟨s0, s1, s2, s3, s4, s5⟩ := hsix
          have hLOv := hLO.out
          have hzk := sizes_get t.sub k hlt
          have hk0 : (0 : Int) ≤ (k : Int) := by omega
          have hk1 : (k : Int) < t.sub.length := by omega
          have hcall := fun W (h : Ext wr W) => ih t.sub[k] A' Au c' cu W (by omega) (by omega) hu (hsub.mono (hb.trans h)) (hsu.mono (hb.trans h))
          have n1 : b ≠ b1 := by omega
          have n2 : w.heap.size ≠ b1 := by omega
          have n3 : w.heap.size + 1 ≠ b1 := by omega
          have n4 : w2.heap.size ≠ b1 := by omega
          have hS : ∀ W, Off b1 wr W → (Off b1 wr W ∧ W.cell? ⟨w.heap.size, 5, none⟩ = some (.slice (some ⟨b, o, none⟩) t.sub.length c) ∧ W.cell? ⟨w2.heap.size, 5, none⟩ = some (.slice (some ⟨b1, o1, none⟩) t.sub.length c1) ∧
            (W.cell? ⟨b, o + k * 6, none⟩ = some (.int .u8 t.sub[k].kind) ∧ W.cell? ⟨b, o + k * 6 + 1, none⟩ = some (.int .i64 t.sub[k].width) ∧ W.cell? ⟨b, o + k * 6 + 2, none⟩ = some (.int .u64 t.sub[k].bits) ∧
              W.cell? ⟨b, o + k * 6 + 3, none⟩ = some (.string t.sub[k].name) ∧ W.cell? ⟨b, o + k * 6 + 4, none⟩ = some (.int .i64 t.sub[k].low) ∧ W.cell? ⟨b, o + k * 6 + 5, none⟩ = some (.slice A' t.sub[k].sub.length c')) ∧
            (W.cell? ⟨w.heap.size + 1, 0, none⟩ = some (.int .u8 u.kind) ∧ W.cell? ⟨w.heap.size + 1, 1, none⟩ = some (.int .i64 u.width) ∧ W.cell? ⟨w.heap.size + 1, 2, none⟩ = some (.int .u64 u.bits) ∧
              W.cell? ⟨w.heap.size + 1, 3, none⟩ = some (.string u.name) ∧ W.cell? ⟨w.heap.size + 1, 4, none⟩ = some (.int .i64 u.low) ∧ W.cell? ⟨w.heap.size + 1, 5, none⟩ = some (.slice Au u.sub.length cu))) :=
            fun W h => ⟨h, h.cell n2 q5, h.cell n4 p5, ⟨h.cell n1 (hb.cell h0), h.cell n1 (hb.cell h1), h.cell n1 (hb.cell h2), h.cell n1 (hb.cell h3), h.cell n1 (hb.cell h4), h.cell n1 (hb.cell h5)⟩, ⟨h.cell n3 r0, h.cell n3 r1, h.cell n3 r2, h.cell n3 r3, h.cell n3 r4, h.cell n3 r5⟩⟩
          replace hS := Lib.hid hS
          have hd : Off b1 wr wr.drew := Off.of_ext (Ext.refl wr).drew
          obtain ⟨pk, hpk⟩ : ∃ x, x = putT nm u t.sub[k] := ⟨_, rfl⟩
          rw [← hpk] at hcall
          replace hpk := Lib.hid hpk
          clear q0 q1 q2 q3 q4 p0 p1 p2 p3 p4 h0 h1 h2 h3 h4 h5 p5 r0 r1 r2 r3 r4 r5 he1 e0 htw
          go_wp2_with fail
          go_region_held3 (fun W => Off b1 wr W ∧ W.cell? ⟨w.heap.size, 5, none⟩ = some (.slice (some ⟨b, o, none⟩) t.sub.length c) ∧ W.cell? ⟨w2.heap.size, 5, none⟩ = some (.slice (some ⟨b1, o1, none⟩) t.sub.length c1) ∧
            (W.cell? ⟨b, o + k * 6, none⟩ = some (.int .u8 t.sub[k].kind) ∧ W.cell? ⟨b, o + k * 6 + 1, none⟩ = some (.int .i64 t.sub[k].width) ∧ W.cell? ⟨b, o + k * 6 + 2, none⟩ = some (.int .u64 t.sub[k].bits) ∧
              W.cell? ⟨b, o + k * 6 + 3, none⟩ = some (.string t.sub[k].name) ∧ W.cell? ⟨b, o + k * 6 + 4, none⟩ = some (.int .i64 t.sub[k].low) ∧ W.cell? ⟨b, o + k * 6 + 5, none⟩ = some (.slice A' t.sub[k].sub.length c')) ∧
            (W.cell? ⟨w.heap.size + 1, 0, none⟩ = some (.int .u8 u.kind) ∧ W.cell? ⟨w.heap.size + 1, 1, none⟩ = some (.int .i64 u.width) ∧ W.cell? ⟨w.heap.size + 1, 2, none⟩ = some (.int .u64 u.bits) ∧
              W.cell? ⟨w.heap.size + 1, 3, none⟩ = some (.string u.name) ∧ W.cell? ⟨w.heap.size + 1, 4, none⟩ = some (.int .i64 u.low) ∧ W.cell? ⟨w.heap.size + 1, 5, none⟩ = some (.slice Au u.sub.length cu)))
            (with_reducible (first | exact hS.out _ hd | exact hS.out _ (Off.of_ext hE) | exact hS.out _ ((((((Off.of_ext hE).set _ _).set _ _).set _ _).set _ _).set _ _ |>.set _ _)))
            ((go_at_call 34; refine (hcall _ (by exact (Ext.refl wr).drew)).mono ?_; rintro e w4 ⟨A5, c5, rfl, hs5, hb4⟩; have hE : Ext wr w4 := ((Ext.refl wr).drew).trans hb4; have f4 := fun j => (Below.frozen (p := ⟨b1, j, none⟩) hE.b (by show b1 < wr.heap.size; omega)).trans (hfz j);
              have g0 := hE.cell s0; have g1 := hE.cell s1; have g2 := hE.cell s2; have g3 := hE.cell s3; have g4 := hE.cell s4; have g5 := hE.cell s5))
          have hst : PutI nm u t.sub LO (some ⟨b1, o1, none⟩) (k + 1) (set6 w4 b1 (o1 + k * 6) pk A5 c5) := by
            have := PutI.step (A5 := A5) (c5 := c5) hP hE hlt (by omega) hLz (by rw [← hpk.out]; exact hs5)
            rwa [← hpk.out] at this
          have hE4 : Ext w w4 := hb.trans hE
          have hz4 := hE.sz
          have hB1' := hE.heap hB1
          have hB2' := hE.heap hB2
          have hB3' := hE.heap hB3
          have hB4' := hE.heap hB4
          clear hB1 hB2 hB3 hB4 f4 g0 g1 g2 g3 g4 g5 s0 s1 s2 s3 s4 s5 hfz hsx hS hd
          go_wp2
          go_roundw
          case rel =>
            refine ⟨k + 1, by omega, by go_num, hst, ?_, ?_, (set6_heap n2).trans hB1', (set6_heap n3).trans hB2', (set6_heap (by omega)).trans hB3', (set6_heap n4).trans hB4'⟩
            · repeat (refine Ext.set ?_ hlo2 _)
              exact hE4
            · simp; omega
          case measure => simp [intOf]; omega
        · have hkk : k = t.sub.length := by omega
          have hsu1 := PutI.all (lo := w.heap.size + 3) (by rw [← hkk]; exact hP) (fun i hi => by obtain ⟨b1, o1, A3, c3, e, he⟩ := hs2.at_ i hi; exact ⟨b1, o1, e, he.hlo⟩) (by have := hLO.out; omega)
          have hpl : (puts nm u t.sub).length = t.sub.length := puts_length _ _ _
          obtain ⟨z0, z1, z2, z3, z4, z5, z6, z7⟩ := zboxAt hB3
          clear hkk hP r0 r1 r2 r3 r4 r5
          go_wp2
          refine bodyPost_ret (v := tv ⟨t.kind, t.width, t.bits, t.name, t.low, puts nm u t.sub⟩ A1 c1) (by simp [results, Tryd.results34, go_sem, z0, z1, z2, z3, z4, z5, hpl]) rfl ⟨A1, c1, rfl, ?_, ?_⟩
          · refine (hsu1.agree fun b hb _ => ?_).lower (by omega)
            repeat (refine (Below.heap_setCell _ _ _ _ (by show b ≠ w.heap.size + 1 + 1; omega)).trans ?_)
            rfl
          · repeat (refine Ext.set ?_ (by show w.heap.size ≤ w.heap.size + 1 + 1; omega) _)
            exact hb
end Go.Proofs.YthaocbfmdcmkkaaDoor.K
