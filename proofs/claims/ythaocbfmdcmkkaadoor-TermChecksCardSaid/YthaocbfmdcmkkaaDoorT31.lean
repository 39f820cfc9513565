/- Walks: the law TermChecks. -/
import Derived.Test.YthaocbfmdcmkkaaDoorT30
import Derived.Test.YthaocbfmdcmkkaaDoorT29
import Derived.Test.YthaocbfmdcmkkaaDoorT27
import Derived.Test.YthaocbfmdcmkkaaDoorT26
import Derived.Test.YthaocbfmdcmkkaaDoorT25
set_option linter.unusedVariables false
set_option linter.unusedSimpArgs false
namespace Go.Proofs.YthaocbfmdcmkkaaDoor.K
open Go.RowKit
attribute [local go_sem ↓] Go.wp_at_zero Go.wp_at_succ

/-- What the law's writes hit: the kinds of the copy's parts. -/
def OneSk (W : World) (lo hi : Nat) (A : Option Addr) (n : Nat) : Prop := ∀ i, i < n → ∃ b o, A = some ⟨b, o, none⟩ ∧ lo ≤ b ∧ b < hi ∧ (∀ j, W.frozen? ⟨b, j, none⟩ = false) ∧ ∃ k, W.cell? ⟨b, o + i * 6, none⟩ = some (.int .u8 k)
theorem OneSk.of {W : World} {lo : Nat} {A : Option Addr} {ts : List Tm} (h : Subs W lo A ts) (hlo : 0 < lo) {hi : Nat} (hh : W.heap.size ≤ hi) : OneSk W lo hi A ts.length := by
  intro i hi
  obtain ⟨b, o, A', c', rfl, he⟩ := h.at_ i hi
  exact ⟨b, o, rfl, he.hlo, Nat.lt_of_lt_of_le (World.block_lt_of_cell? W ⟨b, _, none⟩ he.c0) hh, he.fz.resolve_left (by omega), _, he.c0⟩
theorem OneSk.agree {W W' : World} {lo hi n : Nat} {A : Option Addr} (h : OneSk W lo hi A n) (hW : ∀ b, lo ≤ b → b < hi → W'.heap[b]? = W.heap[b]?) : OneSk W' lo hi A n := by
  intro i hi
  obtain ⟨b, o, rfl, h1, h2, h3, k, h4⟩ := h i hi
  exact ⟨b, o, rfl, h1, h2, fun j => (World.frozen?_of_block (w := W) (a := ⟨b, j, none⟩) (hW b h1 h2)).trans (h3 j), k, (World.cell?_of_block (w := W) (a := ⟨b, _, none⟩) (hW b h1 h2)).trans h4⟩
theorem OneSk.store {W : World} {lo hi n : Nat} {A : Option Addr} (h : OneSk W lo hi A n) {b1 o1 : Nat} {k : Int} (hc : W.cell? ⟨b1, o1, none⟩ = some (.int .u8 k)) (m : Int) : OneSk (W.setCell ⟨b1, o1, none⟩ (.int .u8 m)) lo hi A n := by
  intro i hi
  obtain ⟨b, o, rfl, h1, h2, h3, k, h4⟩ := h i hi
  refine ⟨b, o, rfl, h1, h2, fun j => by simpa using h3 j, ?_⟩
  by_cases e : (⟨b1, o1, none⟩ : Addr) = ⟨b, o + i * 6, none⟩
  · rw [← e]; exact ⟨m, World.cell?_setCell_same _ _ _ hc⟩
  · exact ⟨k, (World.cell?_setCell_other _ _ _ _ e).trans h4⟩
theorem Bx.agree {W W' : World} {b : Nat} {t : Tm} {A : Option Addr} {c : Nat} (h : Bx W b t A c) (e : W'.heap[b]? = W.heap[b]?) : Bx W' b t A c := by
  have hc : ∀ j v, W.cell? ⟨b, j, none⟩ = some v → W'.cell? ⟨b, j, none⟩ = some v := fun j v h => (World.cell?_of_block (w := W) (a := ⟨b, j, none⟩) e).trans h
  exact ⟨hc _ _ h.c0, hc _ _ h.c1, hc _ _ h.c2, hc _ _ h.c3, hc _ _ h.c4, hc _ _ h.c5⟩
/-- The two copies. -/
structure ChecksJ (w2 : World) (t : Tm) (b5 b6 : Nat) (A5 : Option Addr) (c5 : Nat) (A6 : Option Addr) (c6 lo hi : Nat) (W : World) : Prop where
  x5 : Bx W b5 t A5 c5
  x6 : Bx W b6 t A6 c6
  own : ∀ W' : World, (∀ b, b < lo → W'.heap[b]? = W.heap[b]?) → Subs W' 0 A5 t.sub
  subs : Subs W lo A6 t.sub
  sk : OneSk W lo hi A6 t.sub.length
  le1 : w2.heap.size ≤ lo
  le2 : lo ≤ hi
  le3 : hi ≤ W.heap.size
  d5 : b5 < lo ∨ hi ≤ b5
  d6 : b6 < lo ∨ hi ≤ b6
  ext : Ext w2 W
def ChecksI (w2 : World) (t : Tm) (v5 v6 : Value) (W : World) : Prop := ∃ b5 b6 A5 c5 A6 c6 lo hi, v5 = .pointer (some ⟨b5, 0, none⟩) ∧ v6 = .pointer (some ⟨b6, 0, none⟩) ∧ ChecksJ w2 t b5 b6 A5 c5 A6 c6 lo hi W

set_option maxHeartbeats 16000000 in
set_option maxRecDepth 100000 in
theorem checksLaw1 (t u : Tm) (A Au : Option Addr) (c cu : Nat) (w : World) (hs : Subs w 0 A t.sub) (hsu : Subs w 0 Au u.sub) (hop : OkP t) (hG : Shapes w) :
    Calls Tryd.prog 4 #[tv t A c, tv u Au cu] w fun e w' => e = .returned (.bool true) ∧ Ext w w' := by
  have e0 : Ext w ((w.alloc (.cells (cells6 t A c) 25)).alloc (.cells (cells6 u Au cu) 25)) := ((Ext.refl w).alloc _).alloc _
  go_enter Tryd.func4, Tryd.ntmps4
  go_wp2_with fail
  refine (great_calls t A c _ (hs.mono e0)).mono ?_
  rintro e w1 ⟨g1, rfl, hg1, hb1⟩
  have B0 := hb1.heap (((Ext.refl _).alloc _).heap (heap_new w _))
  have B1 := hb1.heap (heap_new' (b := w.heap.size + 1) (by simp))
  have E1 := e0.trans hb1
  clear e0 hb1
  have Hg1 := Lib.hid hg1
  clear hg1
  cases g1 with
  | true =>
    go_wp2
    go_ret
    exact ⟨rfl, E1⟩
  | false =>
  have hT := Hg1.out rfl
  obtain ⟨q0, q1, q2, q3, q4, q5, q6⟩ := box6At B1
  go_wp2_with fail
  refine (great_calls u Au cu _ (hsu.mono E1)).mono ?_
  rintro e w2 ⟨g2, rfl, hg2, hb2⟩
  replace B0 := hb2.heap B0
  replace B1 := hb2.heap B1
  replace E1 := E1.trans hb2
  clear hb2 q0 q1 q2 q3 q4 q5 q6
  have Hg2 := Lib.hid hg2
  clear hg2
  cases g2 with
  | true =>
    go_wp2
    go_ret
    exact ⟨rfl, E1⟩
  | false =>
  have hU := Hg2.out rfl
  have hok := hop.small hT
  obtain ⟨ht1, ht2, ht3⟩ := hT
  obtain ⟨hu1, hu2, hu3⟩ := hU
  obtain ⟨q0, q1, q2, q3, q4, q5, q6⟩ := box6At B1
  obtain ⟨p0, p1, p2, p3, p4, p5, p6⟩ := box6At B0
  go_wp2_with fail
  go_cut [5, 6] (fun v5 v6 W => ChecksI w2 t v5 v6 W)
  case first =>
    have hS : ∀ W, Ext w2 W → (Ext w2 W ∧ (W.cell? ⟨w.heap.size, 0, none⟩ = some (.int .u8 t.kind) ∧ W.cell? ⟨w.heap.size, 1, none⟩ = some (.int .i64 t.width) ∧ W.cell? ⟨w.heap.size, 2, none⟩ = some (.int .u64 t.bits) ∧
        W.cell? ⟨w.heap.size, 3, none⟩ = some (.string t.name) ∧ W.cell? ⟨w.heap.size, 4, none⟩ = some (.int .i64 t.low) ∧ W.cell? ⟨w.heap.size, 5, none⟩ = some (.slice A t.sub.length c))) :=
      fun W h => ⟨h, h.cell p0, h.cell p1, h.cell p2, h.cell p3, h.cell p4, h.cell p5⟩
    replace hS := Lib.hid hS
    have hl2 := heap_lt B1
    have htw := fun W (h : Ext w W) => rtwin_calls t.size t A c W (Nat.le_refl _) (by omega) (hs.mono h)
    have htu := fun W (h : Ext w W) => twin_calls t.size t A c W (Nat.le_refl _) (by omega) (hs.mono h)
    clear ht3 hu3 Hg1 Hg2 hG hok q0 q1 q2 q3 q4 q5 p0 p1 p2 p3 p4 p5 B0 B1
    go_region_held3 (fun W => Ext w2 W ∧ (W.cell? ⟨w.heap.size, 0, none⟩ = some (.int .u8 t.kind) ∧ W.cell? ⟨w.heap.size, 1, none⟩ = some (.int .i64 t.width) ∧ W.cell? ⟨w.heap.size, 2, none⟩ = some (.int .u64 t.bits) ∧
        W.cell? ⟨w.heap.size, 3, none⟩ = some (.string t.name) ∧ W.cell? ⟨w.heap.size, 4, none⟩ = some (.int .i64 t.low) ∧ W.cell? ⟨w.heap.size, 5, none⟩ = some (.slice A t.sub.length c)))
      (with_reducible (refine hS.out _ ?_; repeat (first | exact And.left (by assumption) | exact Ext.refl _ | refine Ext.drew ?_ | refine Ext.alloc ?_ _ | refine Ext.set ?_ (by first | (simp; done) | (simp; omega)) _ | exact hE4 | exact hE5)))
      (first
        | (go_at_call 7; with_reducible refine (htw _ (E1.trans (And.left (by assumption)))).mono ?_; rintro e w4 ⟨A7, c7, rfl, hs4, hb4⟩; have hE4 : Ext w2 w4 := Ext.trans (And.left (by assumption)) hb4; have hz4 := hb4.sz; obtain ⟨hc4, hf4⟩ := ecell hb4; (try simp only [World.size_alloc, World.size_drew] at hz4 hc4 hf4); (try (have k1 : w2.heap.size < w4.heap.size := (by omega))); (try (have k2 : w2.heap.size + 1 < w4.heap.size := (by omega))))
        | (go_at_call 11; with_reducible refine (htu _ (E1.trans (And.left (by assumption)))).mono ?_; rintro e w5 ⟨A8, c8, rfl, hs5, hb5⟩; have hE5 : Ext w2 w5 := Ext.trans (And.left (by assumption)) hb5; have hz5 := hb5.sz; obtain ⟨hc5, hf5⟩ := ecell hb5; have hs5' := hs5; (try simp only [World.size_alloc, World.size_drew] at hs5'); (try simp only [World.size_alloc, World.size_drew] at hz5 hc5 hf5); (try (have k3 : w2.heap.size < w5.heap.size := (by omega))); (try (have k4 : w2.heap.size + 1 < w5.heap.size := (by omega))); (try (have k5 : w4.heap.size < w5.heap.size := (by omega))); (try (have k6 : w4.heap.size + 1 < w5.heap.size := (by omega)))))
    all_goals
      have k7 : w4.heap.size < w4.heap.size + 1 + 1 := by omega
      have k8 : w2.heap.size < w2.heap.size + 1 + 1 := by omega
      have k9 : w2.heap.size < w4.heap.size + 1 := by omega
      (try (have k10 : w2.heap.size ≠ w4.heap.size := (by omega)))
      (try (have k11 : w4.heap.size ≠ w2.heap.size := (by omega)))
      go_wp2_with fail
      go_meet
      refine ⟨_, _, A7, c7, A8, c8, _, w5.heap.size, rfl, rfl, ?_, ?_, fun W' hW' => ?_, hs5'.agree fun b h1 h2 => ?_, (OneSk.of hs5' (by omega) (Nat.le_refl _)).agree fun b h1 h2 => ?_, ?_, ?_, ?_, ?_, ?_, ?_⟩
      · constructor <;> go_simp
      · constructor <;> go_simp
      · refine (hs4.agree fun b h1 h2 => (hW' b (by omega)).trans ?_).low
        (try simp only [World.size_alloc, World.size_drew] at h1)
        repeat (first | with_reducible rfl | with_reducible refine (hset_ne (by omega)).trans ?_ | with_reducible refine (Below.heap_alloc _ _ _ (by first | omega | (simp only [World.size_alloc, World.size_setCell, World.size_drew]; omega))).trans ?_ | with_reducible refine (hb5.b.block _ (by first | omega | (simp only [World.size_alloc, World.size_setCell, World.size_drew]; omega))).trans ?_)
      · repeat (first | with_reducible rfl | with_reducible refine (hset_ne (by omega)).trans ?_ | with_reducible refine (Below.heap_alloc _ _ _ (by first | omega | (simp only [World.size_alloc, World.size_setCell, World.size_drew]; omega))).trans ?_ | with_reducible refine (hb5.b.block _ (by first | omega | (simp only [World.size_alloc, World.size_setCell, World.size_drew]; omega))).trans ?_)
      · repeat (first | with_reducible rfl | with_reducible refine (hset_ne (by omega)).trans ?_ | with_reducible refine (Below.heap_alloc _ _ _ (by first | omega | (simp only [World.size_alloc, World.size_setCell, World.size_drew]; omega))).trans ?_ | with_reducible refine (hb5.b.block _ (by first | omega | (simp only [World.size_alloc, World.size_setCell, World.size_drew]; omega))).trans ?_)
      · omega
      · omega
      · simp only [World.size_alloc, World.size_setCell, World.size_drew]; omega
      · omega
      · omega
      · repeat (first | with_reducible exact hE5 | with_reducible refine Ext.alloc ?_ _ | with_reducible refine Ext.set' ?_ (by omega) _)
  case rest =>
    obtain ⟨b5, b6, A5, c5, A6, c6, lo, hi, rfl, rfl, J⟩ := hcut
    have hE := J.ext
    have E3 := E1.trans hE
    have Y0 := (Bx.of B0).mono hE
    have Y1 := (Bx.of B1).mono hE
    have hwl := heap_lt B1
    have hwz := hE.sz
    have hz := hE.sz
    have hvar := fun W (h : Ext w W) => vars_calls t A c W (by omega) (hs.mono h) hok (hG.mono h)
    have hrvar := fun W (h : Ext w W) => rvars_calls t A c W (by omega) (hs.mono h) hok
    have hvl : (varsB t).length ≤ 400 := by
      unfold varsB
      split
      · rename_i h; have h1 := vs_len t.vars; have h2 := vars_len t; have h3 := (checkE_ok h).1; simp only [toBd, List.length_map]; omega
      · simp
    unfold VarsR at hvar hrvar
    obtain ⟨vb, hvb⟩ : ∃ l, l = varsB t := ⟨_, rfl⟩
    rw [← hvb] at hvar hrvar hvl
    have hCk := fun W (h : Ext w W) => check_calls t A c W (by omega) (hs.mono h) hok (hG.mono h)
    have hCr := fun W (h : Ext w W) => rcheck_calls t A c W (by omega) (hs.mono h) hok
    have hPu := fun W (h : Ext w W) => pure_calls t A c W (by omega) (hs.mono h) hok (hG.mono h)
    have hPr := fun W (h : Ext w W) => rpure_calls t A c W (by omega) (hs.mono h) hok
    have hSz := fun W (h : Ext w W) => size_calls t A c W (by omega) (hs.mono h)
    have hSr := fun W (h : Ext w W) => rsize_calls t.size t A c W (Nat.le_refl _) (by omega) (hs.mono h)
    have hDp := fun W (h : Ext w W) => depth_calls t.size t A c W (Nat.le_refl _) (by omega) (hs.mono h)
    have hDr := fun W (h : Ext w W) => rdepth_calls t.size t A c W (Nat.le_refl _) (by omega) (hs.mono h)
    have hSa := fun W (h : Ext w W) => same_calls t.size t u A Au c cu W (by omega) (Nat.le_refl _) (hs.mono h) (hsu.mono h)
    have hSe := fun W (h : Ext w W) => rsame_calls t.size t u A Au c cu W (Nat.le_refl _) (by omega) (hs.mono h) (hsu.mono h)
    have hT2 := fun W (h : Ext wc W) => rsame_calls t.size t t A6 A c6 c W (Nat.le_refl _) (by omega) (J.subs.mono h).low (hs.mono (E3.trans h))
    obtain ⟨ec, hec⟩ : ∃ x, x = checkE t := ⟨_, rfl⟩
    obtain ⟨pb, hpb⟩ : ∃ x, x = pureB t := ⟨_, rfl⟩
    obtain ⟨sb, hsb⟩ : ∃ x, x = sameB t u := ⟨_, rfl⟩
    rw [← hec] at hvar hrvar hCk hCr
    rw [← hpb] at hPu hPr
    rw [← hsb] at hSa hSe
    rw [sameB_refl] at hT2
    have X6 := J.x6
    clear hec hpb hsb hvb B0 B1 hG hok ht3 hu3 Hg1 Hg2 q0 q1 q2 q3 q4 q5 q6 p0 p1 p2 p3 p4 p5 p6 hop
    obtain ⟨y0, y1, y2, y3, y4, y5⟩ := id Y0
    go_wp2_with (first
      | (go_at_call 12; refine (hvar _ E3).mono ?_; rintro e w3 ⟨Al, cl, rfl, hrl, hb3⟩; have Y3 := Y0.mono hb3; obtain ⟨y0, y1, y2, y3, y4, y5⟩ := id Y3)
      | (go_at_call 13; refine (hrvar _ (E3.trans hb3)).mono ?_; rintro e w4 ⟨Am, cm, rfl, hrm, hb4⟩))
    have E4 : Ext w w4 := (E3.trans hb3).trans hb4
    have hE4 : Ext wc w4 := hb3.trans hb4
    have Y4 := Y0.mono hE4
    have Z4 := Y1.mono hE4
    have X4 := X6.mono hE4
    replace hrl := hrl.mono hb4
    have hS : ∀ W, Ext w4 W → (Ext w4 W ∧ (W.cell? ⟨w.heap.size, 0, none⟩ = some (.int .u8 t.kind) ∧ W.cell? ⟨w.heap.size, 1, none⟩ = some (.int .i64 t.width) ∧ W.cell? ⟨w.heap.size, 2, none⟩ = some (.int .u64 t.bits) ∧
        W.cell? ⟨w.heap.size, 3, none⟩ = some (.string t.name) ∧ W.cell? ⟨w.heap.size, 4, none⟩ = some (.int .i64 t.low) ∧ W.cell? ⟨w.heap.size, 5, none⟩ = some (.slice A t.sub.length c))) := fun W h => ⟨h, h.cell Y4.c0, h.cell Y4.c1, h.cell Y4.c2, h.cell Y4.c3, h.cell Y4.c4, h.cell Y4.c5⟩
    replace hS := Lib.hid hS
    have e4 : Ext w4 w4 := Ext.refl _
    clear y0 y1 y2 y3 y4 y5 Y3 hvar hrvar
    go_region_held3 (fun W => Ext w4 W ∧ (W.cell? ⟨w.heap.size, 0, none⟩ = some (.int .u8 t.kind) ∧ W.cell? ⟨w.heap.size, 1, none⟩ = some (.int .i64 t.width) ∧ W.cell? ⟨w.heap.size, 2, none⟩ = some (.int .u64 t.bits) ∧
        W.cell? ⟨w.heap.size, 3, none⟩ = some (.string t.name) ∧ W.cell? ⟨w.heap.size, 4, none⟩ = some (.int .i64 t.low) ∧ W.cell? ⟨w.heap.size, 5, none⟩ = some (.slice A t.sub.length c)))
      (with_reducible (first | exact hS.out _ hd | exact hS.out _ (Ext.drew e4) | exact hS.out _ e4))
      (first
        | (go_at_call 14; with_reducible refine (hCk _ (E4.trans (And.left (by assumption)))).mono ?_; rintro e wa ⟨rfl, hb⟩; have hd : Ext w4 wa := Ext.trans (And.left (by assumption)) hb)
        | (go_at_call 15; with_reducible refine (hCr _ (E4.trans (And.left (by assumption)))).mono ?_; rintro e wa ⟨rfl, hb⟩; have hd : Ext w4 wa := Ext.trans (And.left (by assumption)) hb)
        | (go_at_call 16; with_reducible refine (hPu _ (E4.trans (And.left (by assumption)))).mono ?_; rintro e wa ⟨rfl, hb⟩; have hd : Ext w4 wa := Ext.trans (And.left (by assumption)) hb)
        | (go_at_call 17; with_reducible refine (hPr _ (E4.trans (And.left (by assumption)))).mono ?_; rintro e wa ⟨rfl, hb⟩; have hd : Ext w4 wa := Ext.trans (And.left (by assumption)) hb)
        | (go_at_call 18; with_reducible refine (hSz _ (E4.trans (And.left (by assumption)))).mono ?_; rintro e wa ⟨rfl, hb⟩; have hd : Ext w4 wa := Ext.trans (And.left (by assumption)) hb)
        | (go_at_call 19; with_reducible refine (hSr _ (E4.trans (And.left (by assumption)))).mono ?_; rintro e wa ⟨rfl, hb⟩; have hd : Ext w4 wa := Ext.trans (And.left (by assumption)) hb)
        | (go_at_call 20; with_reducible refine (hDp _ (E4.trans (And.left (by assumption)))).mono ?_; rintro e wa ⟨rfl, hb⟩; have hd : Ext w4 wa := Ext.trans (And.left (by assumption)) hb)
        | (go_at_call 21; with_reducible refine (hDr _ (E4.trans (And.left (by assumption)))).mono ?_; rintro e wa ⟨rfl, hb⟩; have hd : Ext w4 wa := Ext.trans (And.left (by assumption)) hb))
    have E5 : Ext w wa := E4.trans hd
    have hE5 : Ext wc wa := hE4.trans hd
    have Y5 := Y4.mono hd
    have Z5 := Z4.mono hd
    have X5 := X4.mono hd
    replace hrl := hrl.mono hd
    replace hrm := hrm.mono hd
    have hB := fun W (h : Ext wa W) => rsameB_calls vb Al Am cl cm _ _ W (by omega) (hrl.mono h) (hrm.mono h)
    clear hS hCk hCr hPu hPr hSz hSr hDp hDr
    have hS : ∀ W, Ext wa W → (Ext wa W ∧ (W.cell? ⟨w.heap.size, 0, none⟩ = some (.int .u8 t.kind) ∧ W.cell? ⟨w.heap.size, 1, none⟩ = some (.int .i64 t.width) ∧ W.cell? ⟨w.heap.size, 2, none⟩ = some (.int .u64 t.bits) ∧
        W.cell? ⟨w.heap.size, 3, none⟩ = some (.string t.name) ∧ W.cell? ⟨w.heap.size, 4, none⟩ = some (.int .i64 t.low) ∧ W.cell? ⟨w.heap.size, 5, none⟩ = some (.slice A t.sub.length c)) ∧ (W.cell? ⟨w.heap.size + 1, 0, none⟩ = some (.int .u8 u.kind) ∧ W.cell? ⟨w.heap.size + 1, 1, none⟩ = some (.int .i64 u.width) ∧ W.cell? ⟨w.heap.size + 1, 2, none⟩ = some (.int .u64 u.bits) ∧ W.cell? ⟨w.heap.size + 1, 3, none⟩ = some (.string u.name) ∧ W.cell? ⟨w.heap.size + 1, 4, none⟩ = some (.int .i64 u.low) ∧ W.cell? ⟨w.heap.size + 1, 5, none⟩ = some (.slice Au u.sub.length cu)) ∧ (W.cell? ⟨b6, 0, none⟩ = some (.int .u8 t.kind) ∧ W.cell? ⟨b6, 1, none⟩ = some (.int .i64 t.width) ∧ W.cell? ⟨b6, 2, none⟩ = some (.int .u64 t.bits) ∧ W.cell? ⟨b6, 3, none⟩ = some (.string t.name) ∧ W.cell? ⟨b6, 4, none⟩ = some (.int .i64 t.low) ∧ W.cell? ⟨b6, 5, none⟩ = some (.slice A6 t.sub.length c6))) := fun W h => ⟨h, ⟨h.cell Y5.c0, h.cell Y5.c1, h.cell Y5.c2, h.cell Y5.c3, h.cell Y5.c4, h.cell Y5.c5⟩, ⟨h.cell Z5.c0, h.cell Z5.c1, h.cell Z5.c2, h.cell Z5.c3, h.cell Z5.c4, h.cell Z5.c5⟩, h.cell X5.c0, h.cell X5.c1, h.cell X5.c2, h.cell X5.c3, h.cell X5.c4, h.cell X5.c5⟩
    replace hS := Lib.hid hS
    have e5 : Ext wa wa := Ext.refl _
    obtain ⟨w5, hw5⟩ : ∃ x, x = wa := ⟨_, rfl⟩
    subst hw5
    have Hd := Lib.hid hd
    clear hd
    go_wp2_with fail
    go_region_held3 (fun W => Ext w5 W ∧ (W.cell? ⟨w.heap.size, 0, none⟩ = some (.int .u8 t.kind) ∧ W.cell? ⟨w.heap.size, 1, none⟩ = some (.int .i64 t.width) ∧ W.cell? ⟨w.heap.size, 2, none⟩ = some (.int .u64 t.bits) ∧
        W.cell? ⟨w.heap.size, 3, none⟩ = some (.string t.name) ∧ W.cell? ⟨w.heap.size, 4, none⟩ = some (.int .i64 t.low) ∧ W.cell? ⟨w.heap.size, 5, none⟩ = some (.slice A t.sub.length c)) ∧ (W.cell? ⟨w.heap.size + 1, 0, none⟩ = some (.int .u8 u.kind) ∧ W.cell? ⟨w.heap.size + 1, 1, none⟩ = some (.int .i64 u.width) ∧ W.cell? ⟨w.heap.size + 1, 2, none⟩ = some (.int .u64 u.bits) ∧ W.cell? ⟨w.heap.size + 1, 3, none⟩ = some (.string u.name) ∧ W.cell? ⟨w.heap.size + 1, 4, none⟩ = some (.int .i64 u.low) ∧ W.cell? ⟨w.heap.size + 1, 5, none⟩ = some (.slice Au u.sub.length cu)) ∧ (W.cell? ⟨b6, 0, none⟩ = some (.int .u8 t.kind) ∧ W.cell? ⟨b6, 1, none⟩ = some (.int .i64 t.width) ∧ W.cell? ⟨b6, 2, none⟩ = some (.int .u64 t.bits) ∧ W.cell? ⟨b6, 3, none⟩ = some (.string t.name) ∧ W.cell? ⟨b6, 4, none⟩ = some (.int .i64 t.low) ∧ W.cell? ⟨b6, 5, none⟩ = some (.slice A6 t.sub.length c6)))
      (with_reducible (first | exact hS.out _ hd | exact hS.out _ (Ext.drew e5) | exact hS.out _ e5))
      (first
        | (go_at_call 22; with_reducible refine (hSa _ (E5.trans (And.left (by assumption)))).mono ?_; rintro e wa ⟨rfl, hb⟩; have hd : Ext w5 wa := Ext.trans (And.left (by assumption)) hb)
        | (go_at_call 10; with_reducible refine (hSe _ (E5.trans (And.left (by assumption)))).mono ?_; rintro e wa ⟨rfl, hb⟩; have hd : Ext w5 wa := Ext.trans (And.left (by assumption)) hb)
        | (go_at_call 10; with_reducible refine (hT2 _ (hE5.trans (And.left (by assumption)))).mono ?_; rintro e wa ⟨rfl, hb⟩; have hd : Ext w5 wa := Ext.trans (And.left (by assumption)) hb)
        | (go_at_call 23; with_reducible refine (hB _ (And.left (by assumption))).mono ?_; rintro e wa ⟨rfl, hb⟩; have hd : Ext w5 wa := Ext.trans (And.left (by assumption)) hb))
    have E6 := E5.trans hd
    have hE6 : Ext wc wa := hE5.trans hd
    have X6' := X5.mono hd
    have Y6' := Y5.mono hd
    have V6' := J.x5.mono hE6
    have hE26 : Ext w2 wa := hE.trans hE6
    have hsk := J.sk.agree (W' := wa) fun b h1 h2 => hE6.b.block b (Nat.lt_of_lt_of_le h2 J.le3)
    have hown : ∀ W' : World, (∀ b, b < lo ∨ hi ≤ b → W'.heap[b]? = wa.heap[b]?) → Subs W' 0 A5 t.sub := fun W' h => J.own W' fun b hb => by
      have hlt : b < wc.heap.size := by
        have h1 := J.le3; have h2 := J.le2; omega
      exact (h b (.inl hb)).trans (hE6.b.block b hlt)
    have le1 := J.le1
    have d5 := J.d5
    have d6 := J.d6
    have hlz := length_le_sizes t.sub
    have htz := t.size_eq
    obtain ⟨w6, hw6⟩ : ∃ x, x = wa := ⟨_, rfl⟩
    subst hw6
    clear hS hSa hSe hT2 hB Hd hd e5 e4 E3 E4 E5 hE4 hE5 Y0 Y1 Y4 Z4 X4 Y5 Z5 X5 X6 hrl hrm J
    go_wp2
    go_loopw [12] (fun i wr => ∃ (k : Nat), k ≤ t.sub.length ∧ i = .int .i64 k ∧ OneSk wr lo hi A6 t.sub.length ∧ Hid (∀ b, b < lo ∨ hi ≤ b → wr.heap[b]? = w6.heap[b]?) ∧ Ext w2 wr) (fun i _ => t.sub.length - (intOf i).toNat)
    case atStart => exact ⟨0, by omega, rfl, hsk, Lib.hid (fun b _ => rfl), hE26⟩
    case round =>
      obtain ⟨k, hk, rfl, hsk1, hag, hE1⟩ := hrel
      clear hsk
      have X := X6'.agree (hag.out b6 d6)
      by_cases hlt : k < t.sub.length
      · obtain ⟨b, o, rfl, g1, g2, g3, n, g4⟩ := id hsk1 k hlt
        have hsk3 := hsk1.store g4 77
        obtain ⟨z0, z1, z2, z3, z4, z5⟩ := id X
        go_wp2
        go_roundw
        case rel => exact ⟨k + 1, by omega, by go_num, hsk3, Lib.hid (fun b' hb' => (hset_ne (by omega)).trans (hag.out b' hb')), hE1.set' (by omega) _⟩
        case measure => simp [intOf]; omega
      · have Y := Y6'.agree (hag.out w.heap.size (.inl (by omega)))
        have V := V6'.agree (hag.out b5 d5)
        obtain ⟨z0, z1, z2, z3, z4, z5⟩ := id X
        obtain ⟨y0, y1, y2, y3, y4, y5⟩ := id Y
        obtain ⟨v0, v1, v2, v3, v4, v5⟩ := id V
        go_wp2_with fail
        refine (rsame_calls t.size t t A5 A c5 c _ (Nat.le_refl _) (by omega) (hown _ hag.out) (hs.mono (E1.trans hE1))).mono ?_
        rintro e w7 ⟨rfl, hb7⟩
        rw [sameB_refl]
        go_wp2
        go_ret
        exact ⟨rfl, (E1.trans hE1).trans hb7⟩
end Go.Proofs.YthaocbfmdcmkkaaDoor.K
