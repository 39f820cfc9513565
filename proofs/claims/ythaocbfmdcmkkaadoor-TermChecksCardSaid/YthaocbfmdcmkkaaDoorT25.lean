/- Walks: the law TermPuts. -/
import Derived.Test.YthaocbfmdcmkkaaDoorT24
import Derived.Test.YthaocbfmdcmkkaaDoorT22
import Derived.Test.YthaocbfmdcmkkaaDoorT14
import Derived.Test.YthaocbfmdcmkkaaDoorA1
import Derived.Deep.DeepCutAuto
set_option linter.unusedVariables false set_option linter.unusedSimpArgs false
namespace Go.Proofs.YthaocbfmdcmkkaaDoor.K
open Go.RowKit
attribute [local go_sem ↓] Go.wp_at_zero Go.wp_at_succ

theorem ecell {W w1 : World} (hb : Ext W w1) : (∀ b o, b < W.heap.size → w1.cell? ⟨b, o, none⟩ = W.cell? ⟨b, o, none⟩) ∧ (∀ b o, b < W.heap.size → w1.frozen? ⟨b, o, none⟩ = W.frozen? ⟨b, o, none⟩) :=
  ⟨fun b o h => Below.cell (p := ⟨b, o, none⟩) hb.b h, fun b o h => Below.frozen (p := ⟨b, o, none⟩) hb.b h⟩

/-- What the law's writes keep: where the parts of the parts lie. -/
def Skel (W : World) (lo : Nat) (A : Option Addr) (ts : List Tm) : Prop := ∀ i (hi : i < ts.length), ∃ b o A' c', A = some ⟨b, o, none⟩ ∧ lo ≤ b ∧ (∀ j, W.frozen? ⟨b, j, none⟩ = false) ∧ (∃ n, W.cell? ⟨b, o + i * 6, none⟩ = some (.int .u8 n)) ∧
  W.cell? ⟨b, o + i * 6 + 5, none⟩ = some (.slice A' ts[i].sub.length c') ∧ ∀ k, k < ts[i].sub.length → ∃ b2 o2, A' = some ⟨b2, o2, none⟩ ∧ lo ≤ b2 ∧ (∀ j, W.frozen? ⟨b2, j, none⟩ = false) ∧ ∃ n, W.cell? ⟨b2, o2 + k * 6, none⟩ = some (.int .u8 n)
theorem Subs.skel {W : World} {lo : Nat} {A : Option Addr} {ts : List Tm} (h : Subs W lo A ts) (hlo : 0 < lo) : Skel W lo A ts := by
  intro i hi
  obtain ⟨b, o, A', c', rfl, he⟩ := h.at_ i hi
  refine ⟨b, o, A', c', rfl, he.hlo, he.fz.resolve_left (by omega), ⟨_, he.c0⟩, he.c5, fun k hk => ?_⟩
  obtain ⟨b2, o2, A2, c2, rfl, he2⟩ := he.sub.at_ k hk
  exact ⟨b2, o2, rfl, he2.hlo, he2.fz.resolve_left (by omega), _, he2.c0⟩
theorem Skel.store {W : World} {lo : Nat} {A : Option Addr} {ts : List Tm} (h : Skel W lo A ts) {b1 o1 : Nat} {n : Int} (hc : W.cell? ⟨b1, o1, none⟩ = some (.int .u8 n)) (m : Int) : Skel (W.setCell ⟨b1, o1, none⟩ (.int .u8 m)) lo A ts := by
  have hint : ∀ b o, (∃ n, W.cell? ⟨b, o, none⟩ = some (.int .u8 n)) → ∃ n, (W.setCell ⟨b1, o1, none⟩ (.int .u8 m)).cell? ⟨b, o, none⟩ = some (.int .u8 n) := fun b o ⟨k, hk⟩ => by
    by_cases e : (⟨b1, o1, none⟩ : Addr) = ⟨b, o, none⟩
    · rw [← e]; exact ⟨m, World.cell?_setCell_same _ _ _ hc⟩
    · exact ⟨k, (World.cell?_setCell_other _ _ _ _ e).trans hk⟩
  have hsl : ∀ b o A c l, W.cell? ⟨b, o, none⟩ = some (.slice A l c) → (W.setCell ⟨b1, o1, none⟩ (.int .u8 m)).cell? ⟨b, o, none⟩ = some (.slice A l c) := fun b o A c l hk => by
    by_cases e : (⟨b1, o1, none⟩ : Addr) = ⟨b, o, none⟩
    · rw [← e, hc] at hk; cases hk
    · exact (World.cell?_setCell_other _ _ _ _ e).trans hk
  intro i hi
  obtain ⟨b, o, A', c', rfl, h1, h2, h3, h4, h5⟩ := h i hi
  refine ⟨b, o, A', c', rfl, h1, fun j => by simpa using h2 j, hint _ _ h3, hsl _ _ _ _ _ h4, fun k hk => ?_⟩
  obtain ⟨b2, o2, rfl, g1, g2, g3⟩ := h5 k hk
  exact ⟨b2, o2, rfl, g1, fun j => by simpa using g2 j, hint _ _ g3⟩
theorem Skel.mono {W W' : World} {lo : Nat} {A : Option Addr} {ts : List Tm} (h : Skel W lo A ts) (hb : Ext W W') : Skel W' lo A ts := by
  have hf : ∀ b, (∃ o v, W.cell? ⟨b, o, none⟩ = some v) → (∀ j, W.frozen? ⟨b, j, none⟩ = false) → ∀ j, W'.frozen? ⟨b, j, none⟩ = false := fun b ⟨o, v, hv⟩ hf j =>
    (Below.frozen (p := ⟨b, j, none⟩) hb.b (show b < W.heap.size from World.block_lt_of_cell? W _ hv)).trans (hf j)
  intro i hi
  obtain ⟨b, o, A', c', rfl, h1, h2, ⟨n3, h3⟩, h4, h5⟩ := h i hi
  refine ⟨b, o, A', c', rfl, h1, hf b ⟨_, _, h3⟩ h2, ⟨n3, hb.cell h3⟩, hb.cell h4, fun k hk => ?_⟩
  obtain ⟨b2, o2, rfl, g1, g2, n, g3⟩ := h5 k hk
  exact ⟨b2, o2, rfl, g1, hf b2 ⟨_, _, g3⟩ g2, n, hb.cell g3⟩
theorem hset_ne {W : World} {b i k : Nat} {v : Value} (h : k ≠ b) : (W.setCell ⟨b, i, none⟩ v).heap[k]? = W.heap[k]? := Below.heap_setCell _ _ _ _ h
theorem Ext.set' {a b : World} (h : Ext a b) {k i : Nat} (hp : a.heap.size ≤ k) (v : Value) : Ext a (b.setCell ⟨k, i, none⟩ v) := h.set hp v
theorem slice_keep {W : World} {b1 o1 : Nat} {n : Int} (hc : W.cell? ⟨b1, o1, none⟩ = some (.int .u8 n)) (m : Int) {b o c l : Nat} {A : Option Addr} (hk : W.cell? ⟨b, o, none⟩ = some (.slice A l c)) : (W.setCell ⟨b1, o1, none⟩ (.int .u8 m)).cell? ⟨b, o, none⟩ = some (.slice A l c) := by
  by_cases e : (⟨b1, o1, none⟩ : Addr) = ⟨b, o, none⟩
  · rw [← e, hc] at hk; cases hk
  · exact (World.cell?_setCell_other _ _ _ _ e).trans hk
/-- A boxed term, cell by cell. -/
structure Bx (W : World) (b : Nat) (t : Tm) (A : Option Addr) (c : Nat) : Prop where
  c0 : W.cell? ⟨b, 0, none⟩ = some (.int .u8 t.kind)
  c1 : W.cell? ⟨b, 1, none⟩ = some (.int .i64 t.width)
  c2 : W.cell? ⟨b, 2, none⟩ = some (.int .u64 t.bits)
  c3 : W.cell? ⟨b, 3, none⟩ = some (.string t.name)
  c4 : W.cell? ⟨b, 4, none⟩ = some (.int .i64 t.low)
  c5 : W.cell? ⟨b, 5, none⟩ = some (.slice A t.sub.length c)
theorem Bx.mono {W W' : World} {b : Nat} {t : Tm} {A : Option Addr} {c : Nat} (h : Bx W b t A c) (hb : Ext W W') : Bx W' b t A c := ⟨hb.cell h.c0, hb.cell h.c1, hb.cell h.c2, hb.cell h.c3, hb.cell h.c4, hb.cell h.c5⟩
theorem Bx.of {W : World} {b : Nat} {t : Tm} {A : Option Addr} {c : Nat} {T : TypeId} (h : W.heap[b]? = some (.cells (cells6 t A c) T (0, 0))) : Bx W b t A c := by
  obtain ⟨q0, q1, q2, q3, q4, q5, q6⟩ := box6At h
  exact ⟨q0, q1, q2, q3, q4, q5⟩
theorem substE_size (t : Tm) (nm : ByteArray) (u : Tm) : (substE t nm u).1.size ≤ 400 := by
  have h0 : noTm.size ≤ 400 := by decide
  unfold substE
  split
  · exact h0
  · split
    · exact h0
    · split
      · exact h0
      · split
        · exact h0
        · split
          · exact h0
          · rename_i h
            exact (checkE_ok (by simpa using h)).1
/-- The two copies. -/
def TwinsI (w2 : World) (t u : Tm) (v7 v8 : Value) (W : World) : Prop := ∃ b7 b8 A7 c7 A8 c8, v7 = .pointer (some ⟨b7, 0, none⟩) ∧ v8 = .pointer (some ⟨b8, 0, none⟩) ∧ Bx W b7 t A7 c7 ∧ Bx W b8 u A8 c8 ∧ Subs W 0 A7 t.sub ∧ Subs W 0 A8 u.sub ∧ Ext w2 W

set_option maxHeartbeats 16000000 in
set_option maxRecDepth 100000 in
theorem putsLaw1 (t u : Tm) (nm : ByteArray) (A Au : Option Addr) (c cu : Nat) (w : World) (hs : Subs w 0 A t.sub) (hsu : Subs w 0 Au u.sub) (hop : OkP t) (hopu : OkP u) (hG : Shapes w) :
    Calls Tryd.prog 3 #[tv t A c, tv u Au cu, .string nm] w fun e w' => e = .returned (.bool true) ∧ Ext w w' := by
  have e0 : Ext w ((w.alloc (.cells (cells6 t A c) 25)).alloc (.cells (cells6 u Au cu) 25)) := ((Ext.refl w).alloc _).alloc _
  go_enter Tryd.func3, Tryd.ntmps3
  go_wp2_with fail
  refine (great_calls t A c _ (hs.mono e0)).mono ?_
  rintro e w1 ⟨g1, rfl, hg1, hb1⟩
  have B0 := hb1.heap (((Ext.refl _).alloc _).heap (heap_new w _))
  have B1 := hb1.heap (heap_new' (b := w.heap.size + 1) (by simp))
  have E1 := e0.trans hb1
  clear e0 hb1
  have Hg1 := Lib.hid hg1
  clear hg1
  cases g1 with
  | true =>
    go_wp2
    go_ret
    exact ⟨rfl, E1⟩
  | false =>
  have hT := Hg1.out rfl
  obtain ⟨q0, q1, q2, q3, q4, q5, q6⟩ := box6At B1
  go_wp2_with fail
  refine (great_calls u Au cu _ (hsu.mono E1)).mono ?_
  rintro e w2 ⟨g2, rfl, hg2, hb2⟩
  replace B0 := hb2.heap B0
  replace B1 := hb2.heap B1
  replace E1 := E1.trans hb2
  clear hb2 q0 q1 q2 q3 q4 q5 q6
  have Hg2 := Lib.hid hg2
  clear hg2
  cases g2 with
  | true =>
    go_wp2
    go_ret
    exact ⟨rfl, E1⟩
  | false =>
  have hU := Hg2.out rfl
  by_cases hlen : 200 < nm.size
  · go_wp2
    go_ret
    exact ⟨rfl, E1⟩
  have hok := hop.small hT
  have hoku := hopu.small hU
  have hnm : nm.size ≤ 140737488351232 := by omega
  obtain ⟨ht1, ht2, ht3⟩ := hT
  obtain ⟨hu1, hu2, hu3⟩ := hU
  obtain ⟨q0, q1, q2, q3, q4, q5, q6⟩ := box6At B1
  obtain ⟨p0, p1, p2, p3, p4, p5, p6⟩ := box6At B0
  go_wp2_with fail
  go_cut [7, 8] (fun v7 v8 W => TwinsI w2 t u v7 v8 W)
  case first =>
    have hS : ∀ W, Ext w2 W → (Ext w2 W ∧ (W.cell? ⟨w.heap.size, 0, none⟩ = some (.int .u8 t.kind) ∧ W.cell? ⟨w.heap.size, 1, none⟩ = some (.int .i64 t.width) ∧ W.cell? ⟨w.heap.size, 2, none⟩ = some (.int .u64 t.bits) ∧
        W.cell? ⟨w.heap.size, 3, none⟩ = some (.string t.name) ∧ W.cell? ⟨w.heap.size, 4, none⟩ = some (.int .i64 t.low) ∧ W.cell? ⟨w.heap.size, 5, none⟩ = some (.slice A t.sub.length c)) ∧
        (W.cell? ⟨w.heap.size + 1, 0, none⟩ = some (.int .u8 u.kind) ∧ W.cell? ⟨w.heap.size + 1, 1, none⟩ = some (.int .i64 u.width) ∧ W.cell? ⟨w.heap.size + 1, 2, none⟩ = some (.int .u64 u.bits) ∧
        W.cell? ⟨w.heap.size + 1, 3, none⟩ = some (.string u.name) ∧ W.cell? ⟨w.heap.size + 1, 4, none⟩ = some (.int .i64 u.low) ∧ W.cell? ⟨w.heap.size + 1, 5, none⟩ = some (.slice Au u.sub.length cu))) :=
      fun W h => ⟨h, ⟨h.cell p0, h.cell p1, h.cell p2, h.cell p3, h.cell p4, h.cell p5⟩, ⟨h.cell q0, h.cell q1, h.cell q2, h.cell q3, h.cell q4, h.cell q5⟩⟩
    replace hS := Lib.hid hS
    have hl2 := heap_lt B1
    have htw := fun W (h : Ext w W) => rtwin_calls t.size t A c W (Nat.le_refl _) (by omega) (hs.mono h)
    have htu := fun W (h : Ext w W) => rtwin_calls u.size u Au cu W (Nat.le_refl _) (by omega) (hsu.mono h)
    clear ht3 hu3 Hg1 Hg2 hG hok hoku q0 q1 q2 q3 q4 q5 p0 p1 p2 p3 p4 p5 B0 B1
    go_region_held3 (fun W => Ext w2 W ∧ (W.cell? ⟨w.heap.size, 0, none⟩ = some (.int .u8 t.kind) ∧ W.cell? ⟨w.heap.size, 1, none⟩ = some (.int .i64 t.width) ∧ W.cell? ⟨w.heap.size, 2, none⟩ = some (.int .u64 t.bits) ∧
        W.cell? ⟨w.heap.size, 3, none⟩ = some (.string t.name) ∧ W.cell? ⟨w.heap.size, 4, none⟩ = some (.int .i64 t.low) ∧ W.cell? ⟨w.heap.size, 5, none⟩ = some (.slice A t.sub.length c)) ∧
        (W.cell? ⟨w.heap.size + 1, 0, none⟩ = some (.int .u8 u.kind) ∧ W.cell? ⟨w.heap.size + 1, 1, none⟩ = some (.int .i64 u.width) ∧ W.cell? ⟨w.heap.size + 1, 2, none⟩ = some (.int .u64 u.bits) ∧
        W.cell? ⟨w.heap.size + 1, 3, none⟩ = some (.string u.name) ∧ W.cell? ⟨w.heap.size + 1, 4, none⟩ = some (.int .i64 u.low) ∧ W.cell? ⟨w.heap.size + 1, 5, none⟩ = some (.slice Au u.sub.length cu)))
      (with_reducible (refine hS.out _ ?_; repeat (first | exact And.left (by assumption) | exact Ext.refl _ | refine Ext.drew ?_ | refine Ext.alloc ?_ _ | refine Ext.set ?_ (by first | (simp; done) | (simp; omega)) _ | exact hE4 | exact hE5)))
      (first
        | (go_at_call 7; with_reducible refine (htw _ (E1.trans (And.left (by assumption)))).mono ?_; rintro e w4 ⟨A7, c7, rfl, hs4, hb4⟩; have hE4 : Ext w2 w4 := Ext.trans (And.left (by assumption)) hb4; have hz4 := hb4.sz; obtain ⟨hc4, hf4⟩ := ecell hb4; (try simp only [World.size_alloc, World.size_drew] at hz4 hc4 hf4); (try (have k1 : w2.heap.size < w4.heap.size := (by omega))); (try (have k2 : w2.heap.size + 1 < w4.heap.size := (by omega))))
        | (go_at_call 7; with_reducible refine (htu _ (E1.trans (And.left (by assumption)))).mono ?_; rintro e w5 ⟨A8, c8, rfl, hs5, hb5⟩; have hE5 : Ext w2 w5 := Ext.trans (And.left (by assumption)) hb5; have hz5 := hb5.sz; obtain ⟨hc5, hf5⟩ := ecell hb5; (try simp only [World.size_alloc, World.size_drew] at hz5 hc5 hf5); (try (have k3 : w2.heap.size < w5.heap.size := (by omega))); (try (have k4 : w2.heap.size + 1 < w5.heap.size := (by omega))); (try (have k5 : w4.heap.size < w5.heap.size := (by omega))); (try (have k6 : w4.heap.size + 1 < w5.heap.size := (by omega)))))
    all_goals
      have k7 : w4.heap.size < w4.heap.size + 1 + 1 := by omega
      have k8 : w2.heap.size < w2.heap.size + 1 + 1 := by omega
      have k9 : w2.heap.size < w4.heap.size + 1 := by omega
      (try (have k10 : w2.heap.size ≠ w4.heap.size := (by omega)))
      (try (have k11 : w4.heap.size ≠ w2.heap.size := (by omega)))
      go_wp2_with fail
      go_meet
      refine ⟨_, _, A7, c7, A8, c8, rfl, rfl, ?_, ?_, ?_, ?_, ?_⟩
      · constructor <;> go_simp
      · constructor <;> go_simp
      · refine (hs4.agree fun b h1 h2 => ?_).low
        (try simp only [World.size_alloc, World.size_drew] at h1)
        repeat (first | with_reducible rfl | with_reducible refine (hset_ne (by omega)).trans ?_ | with_reducible refine (Below.heap_alloc _ _ _ (by first | omega | (simp only [World.size_alloc, World.size_setCell, World.size_drew]; omega))).trans ?_ | with_reducible refine (hb5.b.block _ (by first | omega | (simp only [World.size_alloc, World.size_setCell, World.size_drew]; omega))).trans ?_)
      · refine (hs5.agree fun b h1 h2 => ?_).low
        (try simp only [World.size_alloc, World.size_drew] at h1)
        repeat (first | with_reducible rfl | with_reducible refine (hset_ne (by omega)).trans ?_ | with_reducible refine (Below.heap_alloc _ _ _ (by first | omega | (simp only [World.size_alloc, World.size_setCell, World.size_drew]; omega))).trans ?_)
      · repeat (first | with_reducible exact hE5 | with_reducible refine Ext.alloc ?_ _ | with_reducible refine Ext.set' ?_ (by omega) _)
  case rest =>
    obtain ⟨b7, b8, A7, c7, A8, c8, rfl, rfl, X7, X8, hs7, hs8, hE⟩ := hcut
    have E3 := E1.trans hE
    have Y0 := (Bx.of B0).mono hE
    have Y1 := (Bx.of B1).mono hE
    have hwl := heap_lt B1
    have hwz := hE.sz
    obtain ⟨⟨rt, rx⟩, hr⟩ : ∃ r : Tm × Int, r = substE t nm u := ⟨_, rfl⟩
    have hsub : ∀ W, Ext w W → Calls Tryd.prog 8 #[tv t A c, .string nm, tv u Au cu] W (TermR rt rx W) := fun W h => by
      have := subst_calls t u nm A Au c cu W (by omega) (by omega) (hs.mono h) (hsu.mono h) hok hoku (hG.mono h) hnm
      rwa [← hr] at this
    have hrsub : ∀ W, Ext w W → Calls Tryd.prog 9 #[tv t A c, .string nm, tv u Au cu] W (TermR rt rx W) := fun W h => by
      have := rsubst_calls t u nm A Au c cu W (by omega) (by omega) (hs.mono h) (hsu.mono h) hok hoku
      rwa [← hr] at this
    have hrz : rt.size ≤ 1000000 := by
      have := substE_size t nm u
      rw [← hr] at this
      exact Nat.le_trans this (by omega)
    have hst7 : ∀ W, Ext w2 W → Subs W 0 A t.sub := fun W h => hs.mono (E1.trans h)
    have hsu7 : ∀ W, Ext w2 W → Subs W 0 Au u.sub := fun W h => hsu.mono (E1.trans h)
    clear hr B0 B1 hG hok hoku ht3 hu3 Hg1 Hg2 q0 q1 q2 q3 q4 q5 q6 p0 p1 p2 p3 p4 p5 p6
    have Yc0 := Y0
    have Yc1 := Y1
    obtain ⟨y0, y1, y2, y3, y4, y5⟩ := id Y0
    obtain ⟨z0, z1, z2, z3, z4, z5⟩ := id Y1
    go_wp2_with fail
    refine (hsub _ E3).mono ?_
    rintro e w3 ⟨Ar, cr, rfl, hsr, hb3⟩
    replace Y0 := Y0.mono hb3
    replace Y1 := Y1.mono hb3
    have hz3 := hb3.sz
    clear y0 y1 y2 y3 y4 y5 z0 z1 z2 z3 z4 z5
    obtain ⟨y0, y1, y2, y3, y4, y5⟩ := id Y0
    obtain ⟨z0, z1, z2, z3, z4, z5⟩ := id Y1
    have k1 : w.heap.size < w3.heap.size := by omega
    have k2 : w.heap.size + 1 < w3.heap.size := by omega
    go_wp2_with fail
    have e3 : Ext w3 (w3.alloc (.cells (cells6 rt Ar cr) 25)) := (Ext.refl _).alloc _
    refine (hrsub _ ((E3.trans hb3).trans e3)).mono ?_
    rintro e w4 ⟨As, cs, rfl, hss, hb4⟩
    have hz4 := hb4.sz
    simp only [World.size_alloc] at hz4
    have Ya : Bx w4 w3.heap.size rt Ar cr := Bx.of (hb4.heap (heap_new w3 _))
    have hE4 : Ext w3 w4 := e3.trans hb4
    replace Y0 := Y0.mono hE4
    replace Y1 := Y1.mono hE4
    clear y0 y1 y2 y3 y4 y5 z0 z1 z2 z3 z4 z5 k1 k2
    obtain ⟨y0, y1, y2, y3, y4, y5⟩ := id Ya
    have k1 : w3.heap.size < w4.heap.size := by omega
    go_wp2_with fail
    have e4 : Ext w4 (w4.alloc (.cells (cells6 rt As cs) 25)) := (Ext.refl _).alloc _
    refine (rsame_calls rt.size rt rt Ar As cr cs _ (Nat.le_refl _) hrz ((hsr.mono (hE4.trans e4)).low) ((hss.mono e4).low)).mono ?_
    rintro e w5 ⟨rfl, hb5⟩
    rw [sameB_refl]
    have hz5 := hb5.sz
    simp only [World.size_alloc] at hz5
    have hE5 : Ext w4 w5 := e4.trans hb5
    have E5 : Ext wc w5 := (hb3.trans hE4).trans hE5
    have hsk : Skel w5 wc.heap.size Ar rt.sub := ((hsr.mono (hE4.trans hE5))).skel (by omega)
    have ha5 : w5.cell? ⟨w3.heap.size, 5, none⟩ = some (.slice Ar rt.sub.length cr) := hE5.cell y5
    have hrl := length_le_sizes rt.sub
    have hrz2 := rt.size_eq
    clear y0 y1 y2 y3 y4 y5 Y0 Y1 Ya hsub hrsub hsr hss k1 e3 e4 hb3 hb4 hb5 hE4 hE5
    go_wp2
    go_loopw [14, 15] (fun i _ wr => ∃ (k : Nat), k ≤ rt.sub.length ∧ i = .int .i64 k ∧ Skel wr wc.heap.size Ar rt.sub ∧ Ext wc wr ∧ wr.cell? ⟨w3.heap.size, 5, none⟩ = some (.slice Ar rt.sub.length cr)) (fun i _ _ => rt.sub.length - (intOf i).toNat)
    case atStart => exact ⟨0, by omega, rfl, hsk, E5, ha5⟩
    case round =>
      obtain ⟨k, hk, rfl, hsk1, hE1, ha1⟩ := hrel
      clear hsk ha5
      by_cases hlt : k < rt.sub.length
      · obtain ⟨wo, hwo⟩ : ∃ wo : World, wo = wr := ⟨_, rfl⟩
        subst hwo
        have hlz := sizes_get rt.sub k hlt
        have hlk := sub_le_size rt.sub[k]
        go_wp2
        go_loopw [15] (fun j wr => ∃ (m : Nat), m ≤ rt.sub[k].sub.length ∧ j = .int .i64 m ∧ Skel wr wc.heap.size Ar rt.sub ∧ Ext wc wr ∧ wr.cell? ⟨w3.heap.size, 5, none⟩ = some (.slice Ar rt.sub.length cr)) (fun j _ => rt.sub[k].sub.length - (intOf j).toNat)
        case atStart => exact ⟨0, by omega, rfl, hsk1, hE1, ha1⟩
        case round =>
          obtain ⟨m, hm, rfl, hsk2, hE2, ha2⟩ := hrel
          obtain ⟨b, o, A', c', rfl, g1, g2, ⟨n3, g3⟩, g4, g5⟩ := id hsk2 k hlt
          by_cases hlt2 : m < rt.sub[k].sub.length
          · obtain ⟨b2, o2, rfl, f1, f2, n4, f3⟩ := g5 m hlt2
            have hsk3 := hsk2.store f3 77
            have ha3 := slice_keep f3 77 ha2
            clear g5
            go_wp2
            go_roundw
            case rel => exact ⟨m + 1, by omega, by go_num, hsk3, hE2.set' f1 _, ha3⟩
            case measure => simp [intOf]; omega
          · have hsk3 := hsk2.store g3 77
            have ha3 := slice_keep g3 77 ha2
            clear g5
            go_wp2
            go_roundw
            case rel => exact ⟨k + 1, by omega, by go_num, hsk3, hE2.set' g1 _, ha3⟩
            case measure => simp [intOf]; omega
      · have E6 := hE1
        replace X7 := X7.mono hE1
        replace X8 := X8.mono hE1
        replace Yc0 := Yc0.mono hE1
        replace Yc1 := Yc1.mono hE1
        obtain ⟨y0, y1, y2, y3, y4, y5⟩ := id Yc0
        obtain ⟨z0, z1, z2, z3, z4, z5⟩ := id X7
        go_wp2_with fail
        refine (rsame_calls t.size t t A7 A c7 c _ (Nat.le_refl _) (by omega) (hs7.mono hE1) (hst7 _ (hE.trans hE1))).mono ?_
        rintro e w6 ⟨rfl, hb6⟩
        rw [sameB_refl]
        replace X8 := X8.mono hb6
        replace Yc1 := Yc1.mono hb6
        clear y0 y1 y2 y3 y4 y5 z0 z1 z2 z3 z4 z5
        obtain ⟨y0, y1, y2, y3, y4, y5⟩ := id Yc1
        obtain ⟨z0, z1, z2, z3, z4, z5⟩ := id X8
        go_wp2_with fail
        refine (rsame_calls u.size u u A8 Au c8 cu _ (Nat.le_refl _) (by omega) (hs8.mono (hE1.trans hb6)) (hsu7 _ ((hE.trans hE1).trans hb6))).mono ?_
        rintro e w7 ⟨rfl, hb7⟩
        rw [sameB_refl]
        go_wp2
        go_ret
        exact ⟨rfl, (((E1.trans hE).trans hE1).trans hb6).trans hb7⟩
end Go.Proofs.YthaocbfmdcmkkaaDoor.K
