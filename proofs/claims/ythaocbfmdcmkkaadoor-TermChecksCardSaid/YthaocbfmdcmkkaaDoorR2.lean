/- The law TermChecks holds for every input: two terms in memory, the table of shapes as the program's text lays it: the program's Check, Pure, Size, Depth, Same and Vars answer as the reference's do, and a term's copy shares no memory with it. No condition besides the row's own. -/
import Derived.Test.YthaocbfmdcmkkaaDoorT31
import Derived.Test.YthaocbfmdcmkkaaDoorCards
import Derived.Test.YthaocbfmdcmkkaaDoorTie
set_option linter.unusedVariables false
namespace Go.Proofs.YthaocbfmdcmkkaaDoor.K
open Go.ChangeShapes Go.WideShapes Go.ChangeAt Go.RowKit

theorem own : ownKnob Tryd.prog.godebug = none := by kernel_rfl
theorem laidOut : laidOutB Tryd.prog = true := by kernel_rfl

/-! ### The table of shapes -/
def shapeData (H : Type) (k : Nat) : DataW H := .agg [.lit (.string (wordL.getD k [])), .lit (.int .i64 (partsI k)), .lit (.int .i64 (howI k))]
theorem shapes_data : (Rows.laid_retarget_term_shapes : DataW Unit) = .agg ((List.range 25).map (shapeData Unit)) := by kernel_rfl
noncomputable def shapeTy : TypeId := match (Tryd.prog.globals[0]?).map (·.type) with | some t => t | none => 0
noncomputable def shapeEl : TypeId := match Tryd.prog.underlying shapeTy with | some (.array _ e) => e | _ => 0
noncomputable def shapeFs : Array Field := match Tryd.prog.underlying shapeEl with | some (.struct fs) => fs | _ => #[]
theorem gShapes : Tryd.prog.globalNamed "retarget/term.shapes" = some 0 := by kernel_rfl
theorem gShapesTy : (Tryd.prog.globals[0]?).map (·.type) = some shapeTy := by kernel_rfl
theorem uShapes : Tryd.prog.underlying shapeTy = some (.array 25 shapeEl) := by kernel_rfl
theorem uShape : Tryd.prog.underlying shapeEl = some (.struct shapeFs) := by kernel_rfl
theorem cShapes : Tryd.prog.cellsOf shapeTy = 75 := by kernel_rfl
theorem cShape : Tryd.prog.cellsOf shapeEl = 3 := by kernel_rfl
theorem shapeFs_size : shapeFs.size = 3 := by kernel_rfl
theorem shapeFs_all : shapeFs.toList.map (fun f => (f.type, f.offset)) = [(9, 0), (3, 1), (3, 2)] := by kernel_rfl
theorem mapM_at' {α β : Type} {f : α → Option β} : ∀ {l : List α} {r : List β}, l.mapM f = some r → r.length = l.length ∧ ∀ i (h : i < l.length), f l[i] = r[i]?
  | [], r, h => by simp at h; subst h; simp
  | x :: l, r, h => by
    rw [List.mapM_cons] at h
    obtain ⟨y, hy, h⟩ := Option.bind_eq_some_iff.1 h
    obtain ⟨ys, hys, h⟩ := Option.bind_eq_some_iff.1 h
    cases h
    obtain ⟨h1, h2⟩ := mapM_at' hys
    refine ⟨by simp [h1], fun i hi => ?_⟩
    cases i with
    | zero => simpa using hy
    | succ i => simpa using h2 i (by simpa using hi)
section
variable {W : World} {base : Nat} {sp : Nat → Bool} {hd : Bool}
theorem shapeAt {n : Nat} {cs : List Value} {H : Type} {enc : TypeId × Value → H} {d : DataW H} {p : List MemPlace} {k : Nat} (h : DataW.trod enc Tryd.prog W base sp hd n shapeEl cs = some (shapeData H k, p)) :
    cs[0]? = some (.string (wordI k)) ∧ cs[1]? = some (.int .i64 (partsI k)) ∧ cs[2]? = some (.int .i64 (howI k)) := by
  obtain ⟨xs, m, _, hx, hl, hxl, hf⟩ := DataW.trod_struct uShape h
  rw [shapeFs_size] at hxl
  have hx1 : xs.map (·.1) = [.lit (.string (wordL.getD k [])), .lit (.int .i64 (partsI k)), .lit (.int .i64 (howI k))] := by
    have := congrArg Prod.fst hx
    simpa [shapeData] using this.symm
  have key : ∀ (i : Nat) (T : TypeId) (o : Nat), [(9, 0), (3, 1), (3, 2)][i]? = some (T, o) → ∃ y, xs[i]? = some y ∧ DataW.trod enc Tryd.prog W base sp hd m T ((cs.drop o).take (Tryd.prog.cellsOf T)) = some y := fun i T o hT => by
    have h1 : (shapeFs[i]?).map (fun f : Field => (f.type, f.offset)) = some (T, o) := by rw [← hT, ← shapeFs_all, List.getElem?_map, Array.getElem?_toList]
    obtain ⟨f, hf1, hf2⟩ := Option.map_eq_some_iff.1 h1
    have h3 := hf i f hf1
    simp only [Prod.mk.injEq] at hf2
    rw [hf2.1, hf2.2] at h3
    have hi : i < xs.length := by have := (Array.getElem?_eq_some_iff.1 hf1).1; rw [shapeFs_size] at this; omega
    rw [List.getElem?_eq_getElem hi] at h3 ⊢
    exact ⟨_, rfl, h3⟩
  obtain ⟨y0, a0, g0⟩ := key 0 _ _ rfl
  obtain ⟨y1, a1, g1⟩ := key 1 _ _ rfl
  obtain ⟨y2, a2, g2⟩ := key 2 _ _ rfl
  rw [cStr] at g0
  rw [cI64] at g1 g2
  obtain ⟨s, e0, b0, _⟩ := DataW.trod_string Tryd.underlying9 g0
  obtain ⟨n1, e1, b1, _⟩ := DataW.trod_int Tryd.underlying3 g1
  obtain ⟨n2, e2, b2, _⟩ := DataW.trod_int Tryd.underlying3 g2
  have c0 : (xs.map (·.1))[0]? = some (DataW.lit (.string s.data.toList)) := by rw [List.getElem?_map, a0, b0]; rfl
  have c1 : (xs.map (·.1))[1]? = some (DataW.lit (.int .i64 n1)) := by rw [List.getElem?_map, a1, b1]; rfl
  have c2 : (xs.map (·.1))[2]? = some (DataW.lit (.int .i64 n2)) := by rw [List.getElem?_map, a2, b2]; rfl
  rw [hx1] at c0 c1 c2
  simp only [List.getElem?_cons_zero, List.getElem?_cons_succ, Option.some.injEq, DataW.lit.injEq, Lit.string.injEq, Lit.int.injEq, true_and] at c0 c1 c2
  refine ⟨?_, ?_, ?_⟩
  · rw [drop_take_one e0, wordI, Int.toNat_natCast, c0]
  · rw [drop_take_one e1, c1]
  · rw [drop_take_one e2, c2]
end
theorem shapes_of {W : World} {rest : List (String × DataW Unit)} (h : laidMetH Tryd.prog [("retarget/term.shapes", Rows.laid_retarget_term_shapes)] W) : Shapes W := by
  have h' : laidMet Tryd.prog [("retarget/term.shapes", Rows.laid_retarget_term_shapes)] W := h
  obtain ⟨ps, ⟨g, t, cs, fuel, p, q, hg, ht, hvar, hd, _, _⟩, _⟩ := h'
  obtain rfl := Option.some.inj (gShapes.symm.trans hg)
  obtain rfl := Option.some.inj (gShapesTy.symm.trans ht)
  have hcell := World.var?_cell hg hvar
  rw [shapes_data] at hd
  cases fuel with
  | zero => simp [DataW.trod] at hd
  | succ fuel =>
    simp only [DataW.trod, uShapes, cShape, cShapes] at hd
    split at hd
    · rename_i hl
      obtain ⟨xs, hm, hx⟩ := Option.map_eq_some_iff.1 hd
      obtain ⟨hxl, hat⟩ := mapM_at' hm
      rw [List.length_range] at hxl
      have hx1 : xs.map (·.1) = (List.range 25).map (shapeData Unit) := by
        have := congrArg Prod.fst hx
        simpa using this
      intro k hk
      have h1 := hat k (by simp; omega)
      rw [List.getElem_range, List.getElem?_eq_getElem (by omega)] at h1
      have h2 : xs[k].1 = shapeData Unit k := by
        have := congrArg (·[k]?) hx1
        simp only [List.getElem?_map, List.getElem?_eq_getElem (show k < xs.length by omega), Option.map_some, List.getElem?_range (show k < 25 by omega), Option.some.injEq] at this
        exact this
      obtain ⟨d, p⟩ : ∃ z, z = xs[k] := ⟨_, rfl⟩
      rw [show xs[k] = (shapeData Unit k, xs[k].2) from Prod.ext h2 rfl] at h1
      obtain ⟨c0, c1, c2⟩ := shapeAt (d := Rows.laid_retarget_term_shapes) h1
      have up : ∀ j, j < 3 → ((cs.toList.drop (k * 3)).take 3)[j]? = cs[k * 3 + j]? := fun j hj => by
        rw [List.getElem?_take, if_pos hj, List.getElem?_drop, Array.getElem?_toList]
      rw [up 0 (by omega)] at c0
      rw [up 1 (by omega)] at c1
      rw [up 2 (by omega)] at c2
      exact ⟨(hcell (k * 3)).trans c0, (hcell (k * 3 + 1)).trans c1, (hcell (k * 3 + 2)).trans c2⟩
    · cases hd

set_option maxRecDepth 100000 in
theorem contract (H : Type) (enc : TypeId × Value → H) (W : World) (base : Nat) (args : Array Value) (ds gs : List (DataW H)) (before : List MemPlace)
    (hval : ∀ (j : Nat) t v, Tryd.f4.params[j]? = some t → args[j]? = some v → Value.okWide Tryd.prog W .any base t v)
    (hW : DataW.Whole enc Tryd.prog Tryd.f4.params.toList Rows.termChecksSpec.vars false W args.toList ds gs before) (hL : laidMetH Tryd.prog Rows.termChecksRow.laid W) :
    Calls Tryd.prog 4 args W fun e W' => ∃ v, e = .returned v ∧ Rows.termChecksSpec.post enc Tryd.prog Tryd.f4 false true false false W args v W' := by
  have hW' := hW
  obtain ⟨p, q, hA, hV, rfl, hfz, hnd⟩ := hW
  rw [Tryd.params4] at hA
  obtain ⟨v0, vs0, d0, ds0, p0, q0, hargs, rfl, rfl, h0, r0⟩ := trodAll_cons hA
  obtain ⟨v1, vs1, d1, ds1, p1, q1, rfl, rfl, rfl, h1, r1⟩ := trodAll_cons r0
  obtain ⟨rfl, rfl, rfl⟩ := trodAll_nil r1
  obtain rfl : args = #[v0, v1] := Array.toList_inj.1 hargs
  obtain ⟨t, A, c, rfl, hs, ho⟩ := open_tm_arg h0
  obtain ⟨u, Au, cu, rfl, hsu, hou⟩ := open_tm_arg h1
  refine (checksLaw1 t u A Au c cu W hs hsu ho (shapes_of (rest := []) hL)).mono ?_
  rintro e W' ⟨rfl, hE⟩
  exact ⟨_, rfl, law_end (tb := 4) laidOut rfl (by kernel_rfl) Tryd.underlying4 (by kernel_rfl) ⟨rfl, rfl, rfl⟩ hW' hE⟩

/-! ### A witness -/
def shapeCells : List Value := (List.range 25).flatMap fun k : Nat => [.string (wordI k), .int .i64 (partsI k), .int .i64 (howI k)]
noncomputable def laidWorld (os : Os) : World :=
  { World.holding Tryd.prog os ⟨#[], #[], []⟩ with heap := (World.holding Tryd.prog os ⟨#[], #[], []⟩).heap.modify 0 fun
      | .cells _ t frozen => .cells shapeCells.toArray t frozen
      | o => o }
abbrev zeroArg : Value := .agg #[.int .u8 0, .int .i64 0, .int .u64 0, .string ⟨#[]⟩, .int .i64 0, .slice none 0 0]
abbrev wArgs : Array Value := #[zeroArg, zeroArg]
theorem laid_met (os : Os) : laidMet Tryd.prog Rows.termChecksRow.laid ((laidWorld os).forCall (fun _ _ => 0) ⟨#[], wArgs, []⟩).memory :=
  laidMet_of_run' 8 (by kernel_rfl) (by kernel_rfl)
def zeroRead (H : Type) : DataW H := .agg [.lit (.int .u8 0), .lit (.int .i64 0), .lit (.int .u64 0), .lit (.string []), .lit (.int .i64 0), .nil]
theorem reads (os : Os) {H : Type} (enc : TypeId × Value → H) : ∃ places, DataW.whole enc Tryd.prog ((laidWorld os).forCall (fun _ _ => 0) ⟨#[], wArgs, []⟩).memory Tryd.f4.params.toList Rows.termChecksSpec.vars false wArgs.toList 8 = some ([zeroRead H, zeroRead H], [], places) :=
  ⟨[], by kernel_rfl⟩

set_option maxRecDepth 100000 in
theorem lifted (os : Os) (started : os.Started) (H : Type) (enc : TypeId × Value → H) (F : Stop.Interp) :
    ReturnsInHanded {} Tryd.checked os 4 .any ((OpenSpec.ofChange Rows.termChecksSpec).preRow enc Tryd.prog Tryd.f4 Rows.termChecksRow.domain false Rows.termChecksRow.laid) (((OpenSpec.ofChange Rows.termChecksSpec).at F).post enc Tryd.prog Tryd.f4 false true false false) := by
  obtain ⟨places, hx⟩ := reads os enc
  refine returnsInHanded_of_row (C := Tryd.checked) (s := OpenSpec.ofChange Rows.termChecksSpec) own started (by kernel_rfl) Tryd.func4
    (witness_row_at (enc := enc) (C := Tryd.checked) false (laidWorld os) wArgs rfl (by kernel_rfl) (by kernel_rfl) (by kernel_rfl)
      (OpenSpec.preRow_of_cond 8 hx (by kernel_rfl) (fun k hk => by cases hk) (by kernel_rfl) (laid_met os))) ?_
  intro W base args ds gs before hval hW _ _ _ hL _ _
  exact contract H enc W base args ds gs before hval hW hL

theorem said : Rows.TermChecksSaid :=
  OpenClaim.holds_of_cond 4 Tryd.f4 rfl rfl rfl rfl rfl rfl rfl ⟨rfl, rfl, rfl, rfl, rfl⟩ rfl rfl rfl rfl rfl (by kernel_rfl) Tryd.func4 (by kernel_rfl)
    (of_decide_eq_true (by kernel_rfl)) (by unfold Func.isWrapper; first | (rw [if_pos (by decide +kernel)]; kernel_rfl) | (rw [if_neg (by decide +kernel)]; exact ⟨rfl, rfl⟩))
    (fun os started H enc _ F => by rw [OpenClaim.pre_eq_preRow]; exact lifted os started H enc F)

/-- No parameter wants a stand-in; the program's own looks are off. -/
theorem plain (f : FuncId) (fn : Func) (hf : Tryd.pinned.checked.prog.funcNamed "retarget/retargetlaw02.TermChecks" = some f) (hfn : Tryd.pinned.checked.prog.funcs[f]? = some fn) :
    true = Tryd.pinned.checked.prog.looks [] ∧ ∀ (j : Nat) t, fn.params[j]? = some t → Tryd.pinned.checked.prog.wantsStandIn t = false := by
  obtain rfl : f = 4 := Option.some.inj ((show Tryd.prog.funcNamed "retarget/retargetlaw02.TermChecks" = some 4 by kernel_rfl).symm.trans hf) |>.symm
  obtain rfl : fn = Tryd.f4 := (Option.some.inj (Tryd.func4.symm.trans hfn)).symm
  refine ⟨by kernel_rfl, fun j t ht => ?_⟩
  have hall : Tryd.f4.params.all (fun t => !Tryd.prog.wantsStandIn t) = true := by kernel_rfl
  have h1 := Array.all_eq_true'.1 hall t (Array.mem_of_getElem? ht)
  have h2 : Tryd.prog.wantsStandIn t = false := by simpa using h1
  exact h2
theorem card : Rows.TermChecksCardSaid :=
  Claim7.holds_tied_plain_at .later [] _ _ _ _ said (fun _ h => by cases h) (by kernel_rfl) (fun _ h => by cases h) termChecks_row_tie rfl ⟨rfl, rfl⟩ (by kernel_rfl) rfl plain (by kernel_rfl)
end Go.Proofs.YthaocbfmdcmkkaaDoor.K
