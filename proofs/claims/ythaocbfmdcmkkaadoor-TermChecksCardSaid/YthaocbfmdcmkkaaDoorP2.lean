/- Plain: lists of variables, sorted by their names, without repetitions. -/
import Derived.Test.YthaocbfmdcmkkaaDoorT9
import Derived.Sort.Walk0
import Derived.Lib.Bytealg
set_option linter.unusedVariables false
set_option linter.unusedSimpArgs false
namespace Go.Proofs.YthaocbfmdcmkkaaDoor.K

/-- The order of names. -/
def ltB (a b : ByteArray) : Bool := Op.bytesLess a.toList b.toList
theorem ltB_eq (a b : ByteArray) : ltB a b = decide (a.toList < b.toList) := bytesLess_eq _ _
theorem ltB_irrefl (a : ByteArray) : ltB a a = false := by rw [ltB_eq]; simp [List.lt_irrefl]
theorem ltB_trans {a b c : ByteArray} (h : ltB a b = true) (k : ltB b c = true) : ltB a c = true := by
  rw [ltB_eq, decide_eq_true_eq] at *; exact List.lt_trans h k
theorem ltB_total {a b : ByteArray} (h : ltB a b = false) (k : ltB b a = false) : a = b := by
  rw [ltB_eq, decide_eq_false_iff_not] at *
  have h1 : b.toList ≤ a.toList := List.not_lt.1 h
  have h2 : a.toList ≤ b.toList := List.not_lt.1 k
  have := List.le_antisymm h2 h1
  rw [ByteArray.toList_eq, ByteArray.toList_eq, Array.toList_inj] at this
  cases a; cases b; simpa using this
theorem ltB_asymm {a b : ByteArray} (h : ltB a b = true) : ltB b a = false := by
  cases hb : ltB b a with
  | false => rfl
  | true => have := ltB_trans h hb; rw [ltB_irrefl] at this; cases this
theorem cmp_neg (a b : List UInt8) : Lib.compareBytes a b < 0 ↔ a < b := by
  induction a generalizing b with
  | nil => cases b <;> simp [Lib.compareBytes]
  | cons x xs ih =>
    cases b with
    | nil => simp [Lib.compareBytes]
    | cons y ys =>
      rw [Lib.compareBytes, List.cons_lt_cons_iff]
      by_cases h1 : x < y
      · simp [h1]
      · by_cases h2 : y < x
        · have : ¬ x = y := fun e => by subst e; exact h1 h2
          simp [h1, h2, this]
        · have : x = y := by
            have a1 : ¬ x.toNat < y.toNat := h1
            have a2 : ¬ y.toNat < x.toNat := h2
            exact UInt8.toNat_inj.1 (by omega)
          subst this
          simp [h1, ih]
theorem cmp_ltB (a b : ByteArray) : decide (Lib.compareBytes a.data.toList b.data.toList < 0) = ltB a b := by
  rw [ltB_eq, ByteArray.toList_eq, ByteArray.toList_eq, decide_eq_decide, cmp_neg]

abbrev VL := List (ByteArray × Int)
def Asc (s : VL) : Prop := s.Pairwise fun a b => ltB a.1 b.1 = true
/-- s is l without repetitions, in order. -/
structure IsVs (l s : VL) : Prop where
  asc : Asc s
  mem : ∀ v, v ∈ s ↔ v ∈ l
theorem Asc.head_le {x : ByteArray × Int} {s : VL} (h : Asc (x :: s)) {y : ByteArray × Int} (hy : y ∈ x :: s) : y = x ∨ ltB x.1 y.1 = true := by
  rcases List.mem_cons.1 hy with rfl | hy
  · exact .inl rfl
  · exact .inr ((List.pairwise_cons.1 h).1 y hy)
theorem asc_unique : ∀ {s s' : VL}, Asc s → Asc s' → (∀ v, v ∈ s ↔ v ∈ s') → s = s'
  | [], [], _, _, _ => rfl
  | [], y :: ys, _, _, h => by have := (h y).2 (by simp); simp at this
  | x :: xs, [], _, _, h => by have := (h x).1 (by simp); simp at this
  | x :: xs, y :: ys, h1, h2, h => by
    have hxy : x = y := by
      rcases h2.head_le ((h x).1 (by simp)) with e | hlt
      · exact e
      · rcases h1.head_le ((h y).2 (by simp)) with e | hlt2
        · exact e.symm
        · have := ltB_trans hlt hlt2; rw [ltB_irrefl] at this; cases this
    subst hxy
    have hn1 : ∀ v ∈ xs, v ≠ x := fun v hv e => by have := (List.pairwise_cons.1 h1).1 v hv; rw [e, ltB_irrefl] at this; cases this
    have hn2 : ∀ v ∈ ys, v ≠ x := fun v hv e => by have := (List.pairwise_cons.1 h2).1 v hv; rw [e, ltB_irrefl] at this; cases this
    rw [asc_unique (List.pairwise_cons.1 h1).2 (List.pairwise_cons.1 h2).2 fun v => ?_]
    constructor
    · intro hv
      rcases List.mem_cons.1 ((h v).1 (List.mem_cons_of_mem _ hv)) with e | hv'
      · exact absurd e (hn1 v hv)
      · exact hv'
    · intro hv
      rcases List.mem_cons.1 ((h v).2 (List.mem_cons_of_mem _ hv)) with e | hv'
      · exact absurd e (hn2 v hv)
      · exact hv'
theorem IsVs.unique {l s s' : VL} (h : IsVs l s) (k : IsVs l s') : s = s' := asc_unique h.asc k.asc fun v => (h.mem v).trans (k.mem v).symm

/-- The place of a name: how many come before it. -/
def place (n : ByteArray) : VL → Nat
  | [] => 0
  | y :: ys => if ltB y.1 n then place n ys + 1 else 0
def insB (s : VL) (x : ByteArray × Int) : VL :=
  if (s[place x.1 s]?).map (·.1) = some x.1 then s else s.take (place x.1 s) ++ x :: s.drop (place x.1 s)
def vs (l : VL) : VL := l.foldl insB []
theorem vs_snoc (l : VL) (x : ByteArray × Int) : vs (l ++ [x]) = insB (vs l) x := by simp [vs]
theorem place_le (n : ByteArray) (s : VL) : place n s ≤ s.length := by
  induction s with
  | nil => simp [place]
  | cons y ys ih => rw [place]; split <;> simp <;> omega
theorem place_before (n : ByteArray) (s : VL) : ∀ i, i < place n s → ∃ y, s[i]? = some y ∧ ltB y.1 n = true := by
  induction s with
  | nil => intro i h; simp [place] at h
  | cons y ys ih =>
    intro i h
    rw [place] at h
    split at h
    · cases i with
      | zero => exact ⟨y, rfl, by assumption⟩
      | succ i => simpa using ih i (by omega)
    · omega
theorem place_at (n : ByteArray) (s : VL) (h : place n s < s.length) : ltB s[place n s].1 n = false := by
  induction s with
  | nil => simp at h
  | cons y ys ih =>
    by_cases hy : ltB y.1 n = true
    · have e : place n (y :: ys) = place n ys + 1 := by rw [place, if_pos hy]
      simp only [e, List.getElem_cons_succ]
      exact ih (by simp only [e, List.length_cons] at h; omega)
    · have e : place n (y :: ys) = 0 := by rw [place, if_neg hy]
      simp only [e, List.getElem_cons_zero]
      simpa using hy
theorem insB_same {s : VL} {x : ByteArray × Int} (h : place x.1 s < s.length) (e : s[place x.1 s].1 = x.1) : insB s x = s := by
  unfold insB; rw [if_pos (by rw [List.getElem?_eq_getElem h]; simp [e])]
theorem insB_end {s : VL} {x : ByteArray × Int} (h : place x.1 s = s.length) : insB s x = s ++ [x] := by
  unfold insB; rw [if_neg (by rw [h]; simp), h]; simp
theorem insB_new {s : VL} {x : ByteArray × Int} (h : place x.1 s < s.length) (e : s[place x.1 s].1 ≠ x.1) : insB s x = s.take (place x.1 s) ++ x :: s.drop (place x.1 s) := by
  unfold insB; rw [if_neg (by rw [List.getElem?_eq_getElem h]; simpa using e)]
theorem asc_ins {s : VL} {x : ByteArray × Int} (h : Asc s) (hne : (s[place x.1 s]?).map (·.1) ≠ some x.1) : Asc (s.take (place x.1 s) ++ x :: s.drop (place x.1 s)) := by
  have hpre : ∀ y ∈ s.take (place x.1 s), ltB y.1 x.1 = true := fun y hy => by
    obtain ⟨i, hi, rfl⟩ := List.getElem_of_mem hy
    rw [List.length_take] at hi
    obtain ⟨z, hz, hlt⟩ := place_before x.1 s i (by omega)
    rw [List.getElem_take]
    rw [List.getElem?_eq_getElem (by omega)] at hz
    cases hz; exact hlt
  have hpost : ∀ y ∈ s.drop (place x.1 s), ltB x.1 y.1 = true := fun y hy => by
    have hlt : place x.1 s < s.length := by
      refine Nat.lt_of_not_le fun h => ?_
      rw [List.drop_eq_nil_of_le h] at hy; simp at hy
    have h0 := place_at x.1 s hlt
    rw [List.getElem?_eq_getElem hlt] at hne
    have h1 : ltB x.1 s[place x.1 s].1 = true := by
      cases hb : ltB x.1 s[place x.1 s].1 with
      | true => rfl
      | false => exact absurd (by rw [Option.map_some, ltB_total h0 hb]) hne
    rw [List.drop_eq_getElem_cons hlt] at hy
    rcases List.mem_cons.1 hy with rfl | hy
    · exact h1
    · have hp : Asc (s.drop (place x.1 s)) := List.Pairwise.sublist (List.drop_sublist _ _) h
      rw [List.drop_eq_getElem_cons hlt] at hp
      exact ltB_trans h1 ((List.pairwise_cons.1 hp).1 y hy)
  unfold Asc
  rw [List.pairwise_append]
  refine ⟨List.Pairwise.sublist (List.take_sublist _ _) h, List.pairwise_cons.2 ⟨hpost, List.Pairwise.sublist (List.drop_sublist _ _) h⟩, fun a ha b hb => ?_⟩
  rcases List.mem_cons.1 hb with rfl | hb
  · exact hpre a ha
  · exact ltB_trans (hpre a ha) (hpost b hb)
theorem isVs_ins {l s : VL} {x : ByteArray × Int} (h : IsVs l s) (hc : ∀ y ∈ l, y.1 = x.1 → y = x) : IsVs (l ++ [x]) (insB s x) := by
  unfold insB
  split
  · rename_i he
    refine ⟨h.asc, fun v => ?_⟩
    obtain ⟨y, hy, he⟩ := Option.map_eq_some_iff.1 he
    have hm : y ∈ s := List.mem_of_getElem? hy
    have hyx : y = x := hc y ((h.mem y).1 hm) he
    rw [h.mem, List.mem_append, List.mem_singleton]
    constructor
    · exact .inl
    · rintro (hv | rfl)
      · exact hv
      · rw [← hyx]; exact (h.mem y).1 hm
  · rename_i he
    refine ⟨asc_ins h.asc he, fun v => ?_⟩
    rw [List.mem_append, List.mem_cons, List.mem_append, List.mem_singleton, ← h.mem]
    have hs : v ∈ s ↔ v ∈ s.take (place x.1 s) ∨ v ∈ s.drop (place x.1 s) := by rw [← List.mem_append, List.take_append_drop]
    rw [hs]
    constructor
    · rintro (h | h | h)
      · exact .inl (.inl h)
      · exact .inr h
      · exact .inl (.inr h)
    · rintro ((h | h) | h)
      · exact .inl h
      · exact .inr (.inr h)
      · exact .inr (.inl h)
theorem isVs_vs {l : VL} (hc : clash l = false) : IsVs l (vs l) := by
  rw [clash_false] at hc
  revert hc
  refine snoc_ind (P := fun l => (∀ a ∈ l, ∀ b ∈ l, a.1 = b.1 → a.2 = b.2) → IsVs l (vs l)) l (fun _ => ⟨List.Pairwise.nil, fun v => Iff.rfl⟩) fun l x ih hc => ?_
  rw [vs_snoc]
  refine isVs_ins (ih fun a ha b hb => hc a (by simp [ha]) b (by simp [hb])) fun y hy he => ?_
  have := hc y (by simp [hy]) x (by simp) he
  exact Prod.ext he this
theorem vs_length_le {l : VL} : (vs l).length ≤ l.length := by
  refine snoc_ind (P := fun l => (vs l).length ≤ l.length) l (by simp [vs]) fun l x ih => ?_
  rw [vs_snoc, List.length_append]
  unfold insB
  split
  · simp; omega
  · simp; omega
/-- What the program collects out of its map: each name once. -/
structure GotI (l : VL) (left : Lit → Bool) (got : VL) : Prop where
  nd : (got.map (·.1)).Nodup
  mem : ∀ n x, (n, x) ∈ got ↔ ((n, x) ∈ l ∧ left (nkey n) = false)
theorem GotI.start (l : VL) : GotI l (Maps.has (mapD l)) [] := ⟨by simp, fun n x => by
  simp only [List.not_mem_nil, false_iff, not_and]
  intro h hl
  rw [has_mapD] at hl
  have := List.any_eq_false.1 hl (n, x) h
  simp at this⟩
theorem GotI.step {l : VL} {left : Lit → Bool} {got : VL} (h : GotI l left got) (hc : clash l = false) {n : ByteArray} {c : Int} (hl : left (nkey n) = true) (hat : ∀ zd : DataW Unit, (mapD l).atKey (nkey n) zd = .lit (.int .i64 c)) :
    GotI l (fun z => left z && !z.sameKey (nkey n)) (got ++ [(n, c)]) := by
  have hin : (n, c) ∈ l := by
    cases hh : Maps.has (mapD l) (nkey n) with
    | false =>
      have h1 := hat .nil
      rw [Maps.atKey_of_not_has hh] at h1; cases h1
    | true =>
      rw [has_mapD] at hh
      obtain ⟨⟨m, y⟩, hm, he⟩ := List.any_eq_true.1 hh
      obtain rfl : m = n := by simpa using he
      have h1 := (atKey_mapD hc hm .nil).symm.trans (hat .nil)
      simp at h1
      rw [← h1]; exact hm
  have hself : (nkey n).sameKey (nkey n) = true := by simp [nkey, Lit.sameKey]
  refine ⟨?_, fun m x => ?_⟩
  · rw [List.map_append, List.nodup_append]
    refine ⟨h.nd, by simp, fun a ha b hb => ?_⟩
    obtain ⟨⟨m, y⟩, hm, rfl⟩ := List.mem_map.1 ha
    obtain rfl : b = n := by simpa using hb
    intro e
    have := ((h.mem m y).1 hm).2
    rw [show m = b from e, hl] at this; cases this
  · rw [List.mem_append, List.mem_singleton, h.mem]
    by_cases e : m = n
    · subst e
      rw [hl, hself]
      constructor
      · rintro (⟨_, h1⟩ | h1)
        · cases h1
        · cases h1; exact ⟨hin, rfl⟩
      · rintro ⟨h1, _⟩
        rw [clash_false] at hc
        exact .inr (by rw [show x = c from hc _ h1 _ hin rfl])
    · have hk : (nkey m).sameKey (nkey n) = false := Maps.sameKey_ne fun he => e (nkey_inj.1 he)
      rw [hk, Bool.not_false, Bool.and_true]
      constructor
      · rintro (h1 | h1)
        · exact h1
        · cases h1; exact absurd rfl e
      · exact .inl
theorem GotI.done {l : VL} {left : Lit → Bool} {got : VL} (h : GotI l left got) (hl : ∀ k, left k = false) : ∀ v, v ∈ got ↔ v ∈ l := fun ⟨n, x⟩ => by
  rw [h.mem]; exact ⟨fun h => h.1, fun h => ⟨h, hl _⟩⟩
/-- A sorted permutation of what was collected is the list. -/
theorem sorted_vs {l got s : VL} (hc : clash l = false) (hnd : (got.map (·.1)).Nodup) (hm : ∀ v, v ∈ got ↔ v ∈ l) (hp : s.Perm got) (hs : s.Pairwise fun a b => ltB b.1 a.1 = false) : s = vs l := by
  have hsn : (s.map (·.1)).Nodup := (hp.map _).nodup_iff.2 hnd
  refine IsVs.unique (l := l) ⟨?_, fun v => (hp.mem_iff).trans (hm v)⟩ (isVs_vs hc)
  have h2 : s.Pairwise fun a b => a.1 ≠ b.1 := by
    unfold List.Nodup at hsn
    rwa [List.pairwise_map] at hsn
  refine (List.pairwise_and_iff.2 ⟨hs, h2⟩).imp fun {a b} ⟨h1, h3⟩ => ?_
  cases hlt : ltB a.1 b.1 with
  | true => rfl
  | false => exact absurd (ltB_total hlt h1) h3
end Go.Proofs.YthaocbfmdcmkkaaDoor.K
