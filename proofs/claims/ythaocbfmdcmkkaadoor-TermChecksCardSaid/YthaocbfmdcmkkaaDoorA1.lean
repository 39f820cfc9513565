/- From the reading of a law's arguments to terms in memory; what a law owes at its end. -/
import Derived.Test.YthaocbfmdcmkkaaDoorT14
import Derived.Test.YthaocbfmdcmkkaaDoorP1
import Derived.ProofKit
import Derived.OpenShut
import Derived.Carry
import Derived.Deep.Slices
import Derived.Deep.DeepHandedRow
import Derived.Lib.LaidTab
set_option linter.unusedVariables false
namespace Go.Proofs.YthaocbfmdcmkkaaDoor.K
open Go.ChangeShapes Go.WideShapes Go.ChangeAt Go.RowKit

/-! ### Terms -/
/-- What lies in the cells of one node is of its kind: of its name nothing is said. -/
structure Wf0 (t : Tm) : Prop where
  k0 : 0 ≤ t.kind
  k1 : t.kind ≤ 255
  w : (Lit.int .i64 t.width).wf = true
  b : (Lit.int .u64 t.bits).wf = true
  l : (Lit.int .i64 t.low).wf = true
def OkP (t : Tm) : Prop := ∀ x ∈ t.nodes, Wf0 x
theorem OkP.small {t : Tm} (h : OkP t) (hs : Small t) : OkT t := fun x hx => ⟨(h x hx).k0, (h x hx).k1, (h x hx).w, (h x hx).b, (h x hx).l, by have := hs.names x hx; omega⟩
theorem nodess_of {ts : List Tm} (h : ∀ t ∈ ts, OkP t) : ∀ x ∈ nodess ts, Wf0 x := by
  induction ts with
  | nil => intro x hx; simp [nodess] at hx
  | cons t ts ih =>
    intro x hx
    simp only [nodess, List.mem_append] at hx
    rcases hx with hx | hx
    · exact h t (by simp) x hx
    · exact ih (fun y hy => h y (by simp [hy])) x hx

theorem cTm : Tryd.prog.cellsOf 25 = 6 := by kernel_rfl
theorem cU8 : Tryd.prog.cellsOf 5 = 1 := by kernel_rfl
theorem cI64 : Tryd.prog.cellsOf 3 = 1 := by kernel_rfl
theorem cU64 : Tryd.prog.cellsOf 22 = 1 := by kernel_rfl
theorem cStr : Tryd.prog.cellsOf 9 = 1 := by kernel_rfl
theorem cTms : Tryd.prog.cellsOf 23 = 1 := by kernel_rfl
noncomputable def tmFields : Array Field := match Tryd.prog.underlying 25 with | some (.struct fs) => fs | _ => #[]
theorem uTm : Tryd.prog.underlying 25 = some (.struct tmFields) := by kernel_rfl
theorem tmFields_size : tmFields.size = 6 := by kernel_rfl
def tmPlan : List (TypeId × Nat) := [(5, 0), (3, 1), (22, 2), (9, 3), (3, 4), (23, 5)]
theorem tmFields_all : tmFields.toList.map (fun f => (f.type, f.offset)) = tmPlan := by kernel_rfl
theorem tmFields_at (i : Nat) : (tmFields[i]?).map (fun f => (f.type, f.offset)) = tmPlan[i]? := by
  rw [← tmFields_all, List.getElem?_map, Array.getElem?_toList]

section
variable {H : Type} {enc : TypeId × Value → H} {W : World} {sp : Nat → Bool} {hd : Bool}
theorem fieldAt {n : Nat} {cs : List Value} {xs : List (DataW H × List MemPlace)} (hf : ∀ (i : Nat) (f : Field), tmFields[i]? = some f → DataW.trod enc Tryd.prog W 0 sp hd n f.type ((cs.drop f.offset).take (Tryd.prog.cellsOf f.type)) = xs[i]?)
    (i T o : Nat) (hi : i < 6) (hT : tmPlan[i]? = some (T, o)) (hl : xs.length = 6) :
    ∃ y, DataW.trod enc Tryd.prog W 0 sp hd n T ((cs.drop o).take (Tryd.prog.cellsOf T)) = some y := by
  have h := tmFields_at i
  rw [hT] at h
  obtain ⟨f, hf1, hf2⟩ := Option.map_eq_some_iff.1 h
  have h3 := hf i f hf1
  simp only [Prod.mk.injEq] at hf2
  rw [hf2.1, hf2.2, List.getElem?_eq_getElem (by omega)] at h3
  exact ⟨_, h3⟩
theorem drop_take_one {cs : List Value} {o : Nat} {v : Value} (h : (cs.drop o).take 1 = [v]) : cs[o]? = some v := by
  have := congrArg (·[0]?) h
  simpa [List.getElem?_take, List.getElem?_drop] using this
theorem add_at {b o j i : Nat} : ((⟨b, o, none⟩ : Addr).add i).add j = ⟨b, o + i + j, none⟩ := by
  unfold Addr.add; by_cases hi : i = 0 <;> by_cases hj : j = 0 <;> simp [hi, hj, Nat.add_assoc]
/-- The elements of a row that reads as terms. -/
theorem elems_of {a : Addr} {len n : Nat} {elems : List (DataW H × List MemPlace)} (hl : elems.length = len)
    (ih : ∀ (cs : List Value) (x : DataW H × List MemPlace), DataW.trod enc Tryd.prog W 0 sp hd n 25 cs = some x → ∃ t A c, cs = El.cells ⟨t, A, c⟩ ∧ Subs W 0 A t.sub ∧ OkP t)
    (h : ∀ i, i < len → (W.cells? 0 (a.add (i * Tryd.prog.cellsOf 25)) (Tryd.prog.cellsOf 25)).bind (DataW.trod enc Tryd.prog W 0 sp hd n 25) = elems[i]?) :
    ∃ ts : List Tm, ts.length = len ∧ (∀ t ∈ ts, OkP t) ∧ Subs W 0 (some a) ts := by
  rw [cTm] at h
  have each : ∀ i, i < len → ∃ t A c, OkP t ∧ (∀ j, j < 6 → W.cell? ((a.add (i * 6)).add j) = (El.cells ⟨t, A, c⟩)[j]?) ∧ Subs W 0 A t.sub := by
    intro i hi
    have h1 := h i hi
    rw [List.getElem?_eq_getElem (by omega)] at h1
    obtain ⟨cs', h2, h3⟩ := Option.bind_eq_some_iff.1 h1
    obtain ⟨t, A, c, rfl, hs, ho⟩ := ih cs' _ h3
    exact ⟨t, A, c, ho, (World.cells?_some h2).2.2, hs⟩
  by_cases h0 : len = 0
  · exact ⟨[], by simp [h0], by simp, .nil _⟩
  obtain ⟨b, o, s⟩ := a
  have hsp : s = none := by
    obtain ⟨t, A, c, _, hc, _⟩ := each 0 (by omega)
    have := World.cell?_spot (show W.cell? _ = some _ from (hc 0 (by omega)))
    simpa [Addr.add] using this
  subst hsp
  have build : ∀ k, k ≤ len → ∃ ts : List Tm, ts.length = k ∧ (∀ t ∈ ts, OkP t) ∧ ∀ i (hi : i < ts.length), ∃ A c, ElemAt W 0 b (o + i * 6) ts[i] A c := by
    intro k
    induction k with
    | zero => exact fun _ => ⟨[], rfl, by simp, by simp⟩
    | succ k ihk =>
      intro hk
      obtain ⟨ts, hl1, ho1, he1⟩ := ihk (by omega)
      obtain ⟨t, A, c, ho, hc, hs⟩ := each k (by omega)
      have hcc : ∀ j, j < 6 → W.cell? ⟨b, o + k * 6 + j, none⟩ = (El.cells ⟨t, A, c⟩)[j]? := fun j hj => by rw [← hc j hj, add_at]
      refine ⟨ts ++ [t], by simp [hl1], ?_, fun i hi => ?_⟩
      · intro x hx
        rcases List.mem_append.1 hx with hx | hx
        · exact ho1 x hx
        · obtain rfl : x = t := by simpa using hx
          exact ho
      · by_cases hik : i < ts.length
        · rw [List.getElem_append_left hik]; exact he1 i hik
        · obtain rfl : i = k := by simp at hi; omega
          have hg : (ts ++ [t])[i] = t := by rw [List.getElem_append_right (by omega)]; simp
          rw [hg]
          exact ⟨A, c, hcc 0 (by omega), hcc 1 (by omega), hcc 2 (by omega), hcc 3 (by omega), hcc 4 (by omega), hcc 5 (by omega), hs, Nat.zero_le _, .inl rfl⟩
  obtain ⟨ts, h1, h2, h3⟩ := build len (Nat.le_refl _)
  exact ⟨ts, h1, h2, Subs.of_at ts o h3⟩
theorem six_list {cs : List Value} (hl : cs.length = 6) {a0 a1 a2 a3 a4 a5 : Value} (h0 : cs[0]? = some a0) (h1 : cs[1]? = some a1) (h2 : cs[2]? = some a2) (h3 : cs[3]? = some a3) (h4 : cs[4]? = some a4) (h5 : cs[5]? = some a5) : cs = [a0, a1, a2, a3, a4, a5] := by
  match cs, hl with
  | [b0, b1, b2, b3, b4, b5], _ =>
    simp only [List.getElem?_cons_zero, List.getElem?_cons_succ, Option.some.injEq] at h0 h1 h2 h3 h4 h5
    rw [h0, h1, h2, h3, h4, h5]
theorem u8_wf {b : Int} (h : (Lit.int .u8 b).wf = true) : 0 ≤ b ∧ b ≤ 255 := by
  simp only [Lit.wf, Bool.and_eq_true, decide_eq_true_eq] at h
  have e1 : IntKind.u8.min = 0 := rfl
  have e2 : IntKind.u8.max = 255 := by decide
  omega
/-- Cells that read as a term are one. -/
theorem open_tm : ∀ (fuel : Nat) (cs : List Value) (x : DataW H × List MemPlace), DataW.trod enc Tryd.prog W 0 sp hd fuel 25 cs = some x → ∃ t A c, cs = El.cells ⟨t, A, c⟩ ∧ Subs W 0 A t.sub ∧ OkP t := by
  intro fuel
  induction fuel using Nat.strongRecOn with
  | _ fuel ih =>
    intro cs x h
    obtain ⟨xs, n, hn, _, hl, hxl, hf⟩ := DataW.trod_struct uTm h
    rw [tmFields_size] at hxl
    rw [cTm] at hl
    obtain ⟨y0, g0⟩ := fieldAt hf 0 _ _ (by omega) rfl hxl
    obtain ⟨y1, g1⟩ := fieldAt hf 1 _ _ (by omega) rfl hxl
    obtain ⟨y2, g2⟩ := fieldAt hf 2 _ _ (by omega) rfl hxl
    obtain ⟨y3, g3⟩ := fieldAt hf 3 _ _ (by omega) rfl hxl
    obtain ⟨y4, g4⟩ := fieldAt hf 4 _ _ (by omega) rfl hxl
    obtain ⟨y5, g5⟩ := fieldAt hf 5 _ _ (by omega) rfl hxl
    rw [cU8] at g0
    rw [cI64] at g1 g4
    rw [cU64] at g2
    rw [cStr] at g3
    rw [cTms] at g5
    obtain ⟨k, e0, _, w0⟩ := DataW.trod_int Tryd.underlying5 g0
    obtain ⟨wd, e1, _, w1⟩ := DataW.trod_int Tryd.underlying3 g1
    obtain ⟨bs, e2, _, w2⟩ := DataW.trod_int Tryd.underlying22 g2
    obtain ⟨nm, e3, _, w3⟩ := DataW.trod_string Tryd.underlying9 g3
    obtain ⟨lo, e4, _, w4⟩ := DataW.trod_int Tryd.underlying3 g4
    have e5 : ∃ A c ts, (cs.drop 5).take 1 = [.slice A (List.length ts) c] ∧ Subs W 0 A ts ∧ ∀ t ∈ ts, OkP t := by
      rcases DataW.trod_slice Tryd.underlying23 g5 with ⟨h0, _⟩ | ⟨a, len, cap, elems, rest, m, hm, h0, _, _, _, _, hlen, hel, _, _⟩
      · exact ⟨none, 0, [], by simpa using h0, .nil _, by simp⟩
      · obtain ⟨ts, h1, h2, h3⟩ := elems_of hlen (fun cs x hx => ih m (by omega) cs x hx) hel
        exact ⟨some a, cap, ts, by rw [h0, h1], h3, h2⟩
    obtain ⟨A, c, ts, e5, hs, ho⟩ := e5
    refine ⟨⟨k, wd, bs, nm, lo, ts⟩, A, c, ?_, hs, ?_⟩
    · have d0 := drop_take_one e0
      have d1 := drop_take_one e1
      have d2 := drop_take_one e2
      have d3 := drop_take_one e3
      have d4 := drop_take_one e4
      have d5 := drop_take_one e5
      exact six_list hl d0 d1 d2 d3 d4 d5
    · intro x hx
      simp only [Tm.nodes, List.mem_cons] at hx
      rcases hx with rfl | hx
      · simp only [Lit.wf, Bool.and_eq_true, decide_eq_true_eq] at w0
        refine ⟨?_, ?_, w1, w2, w4⟩
        · have := w0.1; simpa [IntKind.min, IntKind.signed] using this
        · have := w0.2; simpa [IntKind.max, IntKind.signed, IntKind.bits] using this
      · exact nodess_of ho x hx
/-- An argument of type api.Term. -/
theorem open_tm_arg {v : Value} {d : DataW H} {p : List MemPlace} (h : DataW.Trod enc Tryd.prog W 0 sp hd 25 v d p) : ∃ t A c, v = tv t A c ∧ Subs W 0 A t.sub ∧ OkP t := by
  obtain ⟨fuel, h⟩ := h
  obtain ⟨t, A, c, hc, hs, ho⟩ := open_tm fuel _ _ h
  refine ⟨t, A, c, ?_, hs, ho⟩
  have hl := congrArg List.length hc
  unfold Value.cells at hc hl
  split at hc
  · rename_i cs
    congr 1
    cases cs; simpa [El.cells] using hc
  · simp [El.cells] at hl
/-! ### The end -/
theorem trodAll_stays {P : Program} (hl : laidOutB P = true) {W W' : World} (hb : Ext W W') : ∀ {ts : List TypeId} {vs : List Value} {ds : List (DataW H)} {ps : List MemPlace}, (∀ t ∈ ts, P.readableRec t = true ∧ t < P.types.size) →
    DataW.TrodAll enc P W 0 (fun _ => true) true ts vs ds ps → (∀ p ∈ ps, p.block < W.heap.size) → ∀ sp' : Nat → Bool, (∀ p ∈ ps, sp' p.block = true) → DataW.TrodAll enc P W' 0 sp' true ts vs ds ps
  | [], [], [], _, _, h, _, _, _ => h
  | t :: ts, v :: vs, d :: ds, _, ht, ⟨p, q, h1, h2, e⟩, hlt, sp', hsp => by
    subst e
    refine ⟨p, q, ?_, trodAll_stays hl hb (fun t ht' => ht t (by simp [ht'])) h2 (fun x hx => hlt x (by simp [hx])) sp' (fun x hx => hsp x (by simp [hx])), rfl⟩
    exact WideElems.Trod_stays hl (ht t (by simp)).1 (ht t (by simp)).2 h1 (fun x hx => Below.same hb.b (hlt x (by simp [hx]))) (fun x hx => hsp x (by simp [hx]))
  | [], _ :: _, _, _, _, h, _, _, _ => h.elim
  | [], [], _ :: _, _, _, h, _, _, _ => h.elim
  | _ :: _, [], _, _, _, h, _, _, _ => h.elim
  | _ :: _, _ :: _, [], _, _, h, _, _, _ => h.elim

/-- A law's end: it says true, and all that lay in memory lies as it did. -/
theorem law_end {P : Program} (hl : laidOutB P = true) {f : Func} {s : ChangeSpec} {apart fresh handsOn again : Bool} {W W' : World} {args : Array Value} {ds gs : List (DataW H)} {before : List MemPlace} {tb : TypeId}
    (hvs : s.vars = []) (hrt : f.resultTypes = #[tb]) (hb : P.underlying tb = some .bool) (hpr : f.params.toList.all (fun t => P.readableRec t && decide (t < P.types.size)) = true)
    (hs : (s.fn H ds).results = [.lit (.bool true)] ∧ (s.fn H ds).args = ds ∧ (s.fn H ds).vars = [])
    (hW : DataW.Whole enc P f.params.toList s.vars apart W args.toList ds gs before) (he : Ext W W') : s.post enc P f apart fresh handsOn again W args (.bool true) W' := by
  have hlt : ∀ p ∈ before, p.block < W.heap.size := fun p hp => hW.lt p hp
  have hW' := hW
  obtain ⟨p, q, hA, hV, rfl, hz, hn⟩ := hW
  rw [hvs] at hV
  obtain ⟨rfl, rfl⟩ := trodVars_none hV
  rw [List.append_nil] at hlt hz hn hW'
  have hpr' : ∀ t ∈ f.params.toList, P.readableRec t = true ∧ t < P.types.size := fun t ht => by
    have := List.all_eq_true.1 hpr t ht
    simpa using this
  have hargs := fun (sp' : Nat → Bool) (h : ∀ x ∈ p, sp' x.block = true) => trodAll_stays hl he hpr' hA hlt sp' h
  have hres : ∀ (b : Nat) (sp : Nat → Bool) (hd : Bool), DataW.TrodAll enc P W' b sp hd f.resultTypes.toList ((Value.bool true).resultList f.resultTypes.size) [.lit (.bool true)] [] := fun b sp hd => by
    rw [hrt]; exact trodAll_mk1 (shut_bool hb _)
  refine ⟨ds, [], p, [], p, [], by rw [hvs] at hW' ⊢; exact hW', ?_, ?_, ?_, World.keptBut_mono (fun x hx => ⟨hx, .inr (.inl hx)⟩) (Below.frame he.b (· ∈ p)), fun _ => ⟨?_, ?_⟩⟩
  · rw [List.append_nil, hs.1]; exact hres _ _ _
  · rw [List.append_nil, hs.2.1]; exact hargs _ (fun x hx => by simpa using hlt x hx)
  · rw [List.append_nil, hs.2.2, hvs]; rfl
  · exact ok_one hrt rfl (okWide_bool_mk hb _)
  · refine ⟨[.lit (.bool true)] ++ ds, [], p, ⟨p, [], trodAll_append (p' := p) (hargs (fun _ => true) (fun _ _ => rfl)) (hres 0 (fun _ => true) true), by rw [hvs]; rfl, by simp, fun b off hp => ?_, hn⟩, fun x hx _ => hx⟩
    · rw [Below.frozen he.b (hlt _ hp)]; exact hz b off hp
end
end Go.Proofs.YthaocbfmdcmkkaaDoor.K
