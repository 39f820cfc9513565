/- Walks, the reference: Vars. -/
import Derived.Test.YthaocbfmdcmkkaaDoorT28
import Derived.Test.YthaocbfmdcmkkaaDoorT20
import Derived.Deep.AppendLies
import Derived.Deep.RegionHeldLaw
set_option linter.unusedVariables false
set_option linter.unusedSimpArgs false
namespace Go.Proofs.YthaocbfmdcmkkaaDoor.K
open Go.RowKit

/-- What is appended: nothing at nil, or these cells. -/
def Src (W : World) (v : Value) (m : Nat) (news : List Value) : Prop :=
  news.length = m * 3 ∧ (∀ u ∈ news, u.oneCell' = true) ∧ ((v = .slice none 0 0 ∧ m = 0) ∨ ∃ ad c, v = .slice (some ad) m c ∧ ∀ j u, news[j]? = some u → W.cell? (ad.add j) = some u)
section
variable {P : Program}
theorem step_append_src {ops : Array Oper} {o : Oper} {a : Act} {K : Act → World → Prop} {Q : Exit → Act → World → Prop} {E : Prop} {W : World} (hgd : o.guard = none) (s x : Operand) (t : TypeId)
    (ho : o.op = .call { callee := .builtin .append, args := #[s, x], argTypes := #[t, t] }) (base : Nat) (e : TypeId) {z : Value}
    (ht : P.underlying t = some (.slice e)) (hinfo : (P.info? e).map (fun i => (i.zero, i.size, i.bytes)) = some (some z, 3, 32)) (hz : z.cells.size = 3)
    (v : Value) (n : Nat) (xs : List Value) (HO : W.ownsRow base e 3 v n xs) (hs : a.eval s = v)
    (v2 : Value) (m : Nat) (news : List Value) (HS : Src W v2 m news) (hx : a.eval x = v2)
    (hnm : n + m ≤ 1000000) (hb : base ≤ W.heap.size)
    (h : ∀ v1 w1, w1.ownsRow base e 3 v1 (n + m) (xs ++ news) → W.grownBy w1 v.ownBlock → (v1.ownBlock = v.ownBlock ∨ v1.ownBlock = some W.heap.size) → K (a.put o.dst v1) w1) :
    if Region.wanted o (yielded ops a.tmps) = true then Oper.wp P o a W K Q else E := by
  obtain ⟨i, hi, hzz⟩ := Option.map_eq_some_iff.1 hinfo
  simp only [Prod.mk.injEq] at hzz
  obtain ⟨hz0, hz1, hz2⟩ := hzz
  have hw : Region.wanted o (yielded ops a.tmps) = true := by simp [Region.wanted, hgd]
  rw [if_pos hw]
  obtain ⟨hl, h1, ⟨rfl, rfl⟩ | ⟨ad, c, rfl, hc⟩⟩ := HS
  · obtain rfl : news = [] := List.eq_nil_of_length_eq_zero (by simpa using hl)
    have hrun := run_append_owned_none (P := P) (w := W) base t o.type e i 3 ht hi v n xs HO
    unfold Oper.wp
    simp [execOp, ho, resolve, invoke, builtin, hs, hx, hrun, Result.andThen]
    exact h v W (by simpa using HO) (World.grownBy.refl W _) (.inl rfl)
  · obtain ⟨v', w', hr, h2, h3, h4, h5⟩ := run_append_own_at (P := P) W base t o.type e i z 3 32 ht hi hz0 hz1 hz2 hz (by omega) v n xs HO ad m c news hl hc h1 (by simp only [maxLen]; omega) (by omega) hb
    unfold Oper.wp execOp
    simp only [ho, resolve, invoke, builtin, Sem.run_bind, Sem.run_pure, Result.andThen_ok, List.map_toArray, List.map_cons, List.map_nil, hs, hx, hr]
    exact h _ _ h2 h3 h5
end
theorem vs_len (l : VL) : (vs l).length ≤ l.length := vs_length_le
theorem rowB_own {w : World} {base e lo : Nat} {v : Value} {l : VL} (h : w.ownsRow base e 3 v l.length (bcells l)) (hl : lo ≤ base) :
    ∃ A c, v = .slice A l.length c ∧ RowB w lo A (toBd l) := by
  rcases h.2 with ⟨rfl, hn⟩ | ⟨g, cap, cur, rfl, hbase, hb, _⟩
  · exact ⟨none, 0, by rw [hn], fun k hk => absurd hk (by simp [toBd]; omega)⟩
  · refine ⟨some ⟨g, 0, none⟩, cap, rfl, fun k hk => ?_⟩
    have hk' : k < l.length := by simpa [toBd] using hk
    have ha : ∀ j, (⟨g, 0, none⟩ : Addr).add j = ⟨g, j, none⟩ := fun j => by unfold Addr.add; split <;> simp_all
    have hc : ∀ j u, (bcells l)[j]? = some u → w.cell? ⟨g, j, none⟩ = some u := fun j u hj => by rw [← ha]; exact h.cells (g := g) rfl j u hj
    have hx : (toBd l)[k] = ⟨l[k].1, l[k].2, 0⟩ := by simp [toBd]
    rw [hx]
    refine ⟨g, 0, rfl, ?_, ?_, ?_, by omega, .inr fun j => heap_frozen hb j⟩
    · rw [Nat.zero_add]; exact hc _ _ (bcells_get l k hk').1
    · rw [Nat.zero_add]; exact hc _ _ (bcells_get l k hk').2
    · rw [Nat.zero_add]; exact hc _ _ (by
        have hq : ∀ (l : VL) (k : Nat), k < l.length → (bcells l)[k * 3 + 2]? = some (.int .u64 0) := by
          intro l
          induction l with
          | nil => intro k hk; simp at hk
          | cons x l ih =>
            intro k hk
            have e : bcells (x :: l) = [.string x.1, .int .i64 x.2, .int .u64 0] ++ bcells l := rfl
            cases k with
            | zero => rfl
            | succ k =>
              rw [e, List.getElem?_append_right (by simp; omega)]
              simp only [List.length_cons, List.length_nil]
              rw [show (k + 1) * 3 + 2 - (0 + 1 + 1 + 1) = k * 3 + 2 by omega]
              exact ih k (by simpa using hk)
        exact hq l k hk')
theorem brow3 {w : World} {base e : Nat} {v : Value} {l : VL} (h : w.ownsRow base e 3 v l.length (bcells l)) :
    ∃ A c, v = .slice A l.length c ∧ ∀ k (hk : k < l.length), ∃ g, A = some ⟨g, 0, none⟩ ∧ w.cell? ⟨g, k * 3, none⟩ = some (.string l[k].1) ∧ w.cell? ⟨g, k * 3 + 1, none⟩ = some (.int .i64 l[k].2) ∧ w.cell? ⟨g, k * 3 + 2, none⟩ = some (.int .u64 0) := by
  obtain ⟨A, c, rfl, hr⟩ := rowB_own (lo := 0) h (Nat.zero_le _)
  refine ⟨A, c, rfl, fun k hk => ?_⟩
  obtain ⟨b, o, rfl, hx⟩ := hr k (by simpa [toBd] using hk)
  have hx' : (toBd l)[k]'(by simpa [toBd] using hk) = ⟨l[k].1, l[k].2, 0⟩ := by simp [toBd]
  rw [hx'] at hx
  rcases h.2 with ⟨h1, _⟩ | ⟨g, cap, cur, h1, _⟩
  · cases h1
  · obtain ⟨rfl, rfl⟩ : b = g ∧ o = 0 := by simp at h1; exact h1.1
    have c0 := hx.c0; have c1 := hx.c1; have c2 := hx.c2
    simp only [Nat.zero_add] at c0 c1 c2
    exact ⟨b, rfl, c0, c1, c2⟩
theorem bcells_len (l : VL) : (bcells l).length = l.length * 3 := by
  induction l with
  | nil => rfl
  | cons x l ih => rw [show bcells (x :: l) = [.string x.1, .int .i64 x.2, .int .u64 0] ++ bcells l from rfl, List.length_append, ih]; simp; omega
theorem insB_same' {s : VL} {x : ByteArray × Int} {m : Nat} (hm : m = place x.1 s) (h : m < s.length) (e : s[m].1 = x.1) : insB s x = s := by subst hm; exact insB_same h e
theorem insB_new' {s : VL} {x : ByteArray × Int} {m : Nat} (hm : m = place x.1 s) (h : m < s.length) (e : s[m].1 ≠ x.1) : insB s x = s.take m ++ x :: s.drop m := by subst hm; exact insB_new h e
theorem insB_end' {s : VL} {x : ByteArray × Int} {m : Nat} (hm : m = place x.1 s) (h : m = s.length) : insB s x = s.take m ++ x :: s.drop m := by rw [h, List.take_length, List.drop_length]; exact insB_end (hm ▸ h)
theorem place_at' {s : VL} {x : ByteArray × Int} {m : Nat} (hm : m = place x.1 s) (h : m < s.length) : ltB s[m].1 x.1 = false := by subst hm; exact place_at _ _ h
theorem heap_lt' {w : World} {b : Nat} {o : Obj} (h : w.heap[b]? = some o) : b < w.heap.size := (Array.getElem?_eq_some_iff.1 h).1
theorem heap_fresh {w : World} {b : Nat} {o : Obj} (h : b = w.heap.size) : (w.alloc o).heap[b]? = some o := by subst h; exact heap_new w o
theorem own_empty {W : World} {base b e : Nat} (h : W.heap[b]? = some (.cells #[] e (0, 0))) (hb : base ≤ b) : W.ownsRow base e 3 (.slice (some ⟨b, 0, none⟩) 0 0) 0 [] :=
  ⟨rfl, .inr ⟨b, 0, #[], rfl, hb, h, Nat.le_refl _, Nat.zero_le _, rfl, rfl⟩⟩
theorem src_new {W : World} {b e : Nat} {x : ByteArray × Int} (h : W.heap[b]? = some (.cells #[.string x.1, .int .i64 x.2, .int .u64 0] e (0, 0))) : Src W (.slice (some ⟨b, 0, none⟩) 1 1) 1 (bcells [x]) :=
  ⟨rfl, bcells_one [x], .inr ⟨_, _, rfl, World.news_of_block h⟩⟩
theorem src_take {W : World} {base e g c m : Nat} {s : VL} (h : W.ownsRow base e 3 (.slice (some ⟨g, 0, none⟩) s.length c) s.length (bcells s)) (hm : m ≤ s.length) :
    Src W (.slice (some ⟨g, 0, none⟩) m c) m (bcells (s.take m)) := by
  refine ⟨by rw [bcells_len, List.length_take, Nat.min_eq_left hm], bcells_one _, .inr ⟨_, _, rfl, fun j u hj => h.cells (g := g) rfl j u ?_⟩⟩
  have e : bcells s = bcells (s.take m) ++ bcells (s.drop m) := by rw [← bcells_append, List.take_append_drop]
  rw [e, List.getElem?_append_left (List.getElem?_eq_some_iff.1 hj).1]; exact hj
theorem src_drop {W : World} {base e g c m c' : Nat} {s : VL} (h : W.ownsRow base e 3 (.slice (some ⟨g, 0, none⟩) s.length c) s.length (bcells s)) (hm : m ≤ s.length) :
    Src W (.slice (some ⟨g, m * 3, none⟩) (s.length - m) c') (s.length - m) (bcells (s.drop m)) := by
  refine ⟨by rw [bcells_len, List.length_drop], bcells_one _, .inr ⟨_, _, rfl, fun j u hj => ?_⟩⟩
  have e : bcells s = bcells (s.take m) ++ bcells (s.drop m) := by rw [← bcells_append, List.take_append_drop]
  have hl : (bcells (s.take m)).length = m * 3 := by rw [bcells_len, List.length_take, Nat.min_eq_left hm]
  have := h.cells (g := g) rfl (m * 3 + j) u (by rw [e, List.getElem?_append_right (by omega), hl, Nat.add_sub_cancel_left]; exact hj)
  have ha : (⟨g, 0, none⟩ : Addr).add (m * 3 + j) = (⟨g, m * 3, none⟩ : Addr).add j := by unfold Addr.add; split <;> split <;> simp_all
  rwa [ha] at this
theorem row_ins {W : World} {base e m : Nat} {v : Value} {s : VL} {x : ByteArray × Int} (hn : insB s x = s.take m ++ x :: s.drop m) (hm : m ≤ s.length) (h : W.ownsRow base e 3 v (0 + m + 1 + (s.length - m)) ([] ++ bcells (s.take m) ++ bcells [x] ++ bcells (s.drop m))) :
    W.ownsRow base e 3 v (insB s x).length (bcells (insB s x)) := by
  have e1 : (insB s x).length = 0 + m + 1 + (s.length - m) := by rw [hn, List.length_append, List.length_cons, List.length_take, List.length_drop, Nat.min_eq_left hm]; omega
  have e2 : bcells (insB s x) = [] ++ bcells (s.take m) ++ bcells [x] ++ bcells (s.drop m) := by rw [hn, List.nil_append, List.append_assoc, ← bcells_append, ← bcells_append]; rfl
  rw [e1, e2]; exact h
theorem src_none (W : World) : Src W (.slice none 0 0) 0 [] := ⟨rfl, by simp, .inl ⟨rfl, rfl⟩⟩
theorem src_zero (W : World) (a : Addr) (c : Nat) : Src W (.slice (some a) 0 c) 0 [] := ⟨rfl, by simp, .inr ⟨_, _, rfl, by simp⟩⟩
theorem src_all {W : World} {base e g c : Nat} {s : VL} (h : W.ownsRow base e 3 (.slice (some ⟨g, 0, none⟩) s.length c) s.length (bcells s)) :
    Src W (.slice (some ⟨g, 0, none⟩) s.length c) s.length (bcells s) := by have := src_take h (Nat.le_refl _); rwa [List.take_length] at this
theorem row_end {W : World} {base e : Nat} {v : Value} {s : VL} {x : ByteArray × Int} (hn : insB s x = s ++ [x]) (h : W.ownsRow base e 3 v (0 + s.length + 1 + 0) ([] ++ bcells s ++ bcells [x] ++ [])) :
    W.ownsRow base e 3 v (insB s x).length (bcells (insB s x)) := by
  have e1 : (insB s x).length = 0 + s.length + 1 + 0 := by rw [hn, List.length_append]; simp
  have e2 : bcells (insB s x) = [] ++ bcells s ++ bcells [x] ++ [] := by rw [hn, bcells_append]; simp
  rw [e1, e2]; exact h
theorem ltB_def (a b : ByteArray) : ltB a b = Op.bytesLess a.toList b.toList := rfl
set_option maxHeartbeats 4000000 in
set_option maxRecDepth 100000 in
theorem rvars_calls (t : Tm) (A : Option Addr) (c : Nat) (w : World) (hM : t.size ≤ 1000000) (hs : Subs w 0 A t.sub) (hok : OkT t) :
    Calls Tryd.prog 13 #[tv t A c] w (VarsR t w) := by
  have e0 : Ext w (w.alloc (.cells (cells6 t A c) 25)) := (Ext.refl w).alloc _
  have hchk := fun W (h : Ext w W) => rcheck_calls t A c W hM (hs.mono h) hok
  by_cases h1 : checkE t = 0
  · obtain ⟨ht1, ht2, ht3, ht4⟩ := checkE_ok h1
    have hvb : Hid (varsB t = toBd (vs t.vars)) := by show _ = _; unfold varsB; rw [if_pos h1]
    have hch := Lib.hid h1
    rw [h1] at hchk
    have hvar := fun W (h : Ext w W) => list_calls t.size t A c W (Nat.le_refl _) hM (hs.mono h)
    have hvl := vars_len t
    unfold ListR at hvar
    obtain ⟨l, hl⟩ : ∃ l, l = t.vars := ⟨_, rfl⟩
    have hVR : ∀ (e : Ending) (w' : World) (A' : Option Addr) (c' : Nat), e = .returned (.tuple #[.slice A' (vs l).length c', .int .i64 0]) → RowB w' w.heap.size A' (toBd (vs l)) → Ext w w' → VarsR t w e w' := by
      intro e w' A' c' he hr hb
      refine ⟨A', c', ?_, by rw [hvb.out, ← hl]; exact hr, hb⟩
      rw [he, hvb.out, hch.out, ← hl]; simp [toBd]
    rw [← hl] at hvar ht4 hvl
    replace hVR := Lib.hid hVR
    obtain ⟨R, hR⟩ : ∃ R, R = VarsR t w := ⟨_, rfl⟩
    rw [← hR]
    replace hR := Lib.hid hR
    have hll : l.length ≤ 400 := by omega
    clear hl h1 ht2 ht3 hvb hch hvl
    go_enter Tryd.func13, Tryd.ntmps13
    go_wp2_with (first
      | (go_at_call 15; refine (hchk _ (by exact e0)).mono ?_; rintro e w1 ⟨rfl, hb1⟩; obtain ⟨q0, q1, q2, q3, q4, q5, q6⟩ := box6 hb1)
      | (go_at_call 33; refine (hvar _ (by exact e0.trans hb1)).mono ?_; rintro e w2 ⟨vl, rfl, HOl, hb2⟩))
    have E2 : Ext w w2 := (e0.trans hb1).trans hb2
    have hz2 : w.heap.size + 1 ≤ w2.heap.size := by have a1 := hb1.sz; have a2 := hb2.sz; simp only [World.size_alloc] at a1; omega
    clear q0 q1 q2 q3 q4 q5 q6 hchk hvar hb1 hb2 e0
    obtain ⟨Al, cl, rfl, hcell⟩ := brow3 HOl
    clear HOl
    go_loopw [4, 6, 7] (fun v i _ wr => ∃ (k : Nat), k ≤ l.length ∧ i = .int .i64 k ∧ wr.ownsRow (w.heap.size + 1) 59 3 v (vs (l.take k)).length (bcells (vs (l.take k))) ∧ Ext w2 wr) (fun _ i _ _ => l.length - (intOf i).toNat)
    case atStart => exact ⟨0, by omega, rfl, World.ownsRow_nil _ _ _ _, Ext.refl _⟩
    case round =>
      obtain ⟨k, hk, rfl, HO, hE⟩ := hrel
      by_cases hlt : k < l.length
      · obtain ⟨g, rfl, hc1, hc2, hc3⟩ := hcell k hlt
        have hnext : Hid (vs (l.take (k + 1)) = insB (vs (l.take k)) l[k]) := by show _ = _; rw [take_succ' _ _ hlt, vs_snoc]
        have hsl : (vs (l.take k)).length ≤ 400 := by have := vs_len (l.take k); rw [List.length_take] at this; omega
        obtain ⟨s, hs0⟩ : ∃ s, s = vs (l.take k) := ⟨_, rfl⟩
        rw [← hs0] at HO hnext hsl
        clear hs0
        obtain ⟨x, hx0⟩ : ∃ x, x = l[k] := ⟨_, rfl⟩
        rw [← hx0] at hnext hc1 hc2
        clear hx0
        obtain ⟨As, cs, rfl, hsc⟩ := brow HO
        have hpl := place_le x.1 s
        go_wp2
        go_loopw [7] (fun j wr2 => ∃ (m : Nat), m ≤ place x.1 s ∧ j = .int .i64 m ∧ Ext w2 wr2 ∧ Ext wr wr2) (fun j _ => place x.1 s - (intOf j).toNat)
        case atStart => exact ⟨0, by omega, rfl, hE, Ext.refl _⟩
        case round =>
          obtain ⟨m, hm, rfl, hE2, hE3⟩ := hrel
          have c1 := hE2.cell hc1
          by_cases hlt2 : m < place x.1 s
          · have hms : m < s.length := by omega
            obtain ⟨g', rfl, hd1, hd2⟩ := hsc m hms
            have d1 := hE3.cell hd1
            have hb : Op.bytesLess s[m].1.toList x.1.toList = true := by
              obtain ⟨y, hy, hlt⟩ := place_before x.1 s m hlt2
              rw [List.getElem?_eq_getElem (by omega)] at hy
              cases hy; exact hlt
            go_wp2_with fail
            go_quiet (fail)
            all_goals
              go_wp2
              go_roundw
              case rel => exact ⟨m + 1, by omega, by go_num, hE2.drewN _, hE3.drewN _⟩
              case measure => simp [intOf]; omega
          · have hmp := Lib.hid (show m = place x.1 s by omega)
            have hms0 : m ≤ s.length := by omega
            clear hm hlt2 hpl
            rcases Nat.lt_or_ge m s.length with hms | hms
            · obtain ⟨g', rfl, hd1, hd2⟩ := hsc _ hms
              have d1 := hE3.cell hd1
              have hb : Op.bytesLess s[m].1.toList x.1.toList = false := place_at' hmp.out hms
              have hpm : (m : Int) ≠ (s.length : Nat) := by omega
              by_cases hn : s[m].1 = x.1
              · have hsame := Lib.hid (insB_same' hmp.out hms hn)
                rw [hn] at d1 hb
                clear hn hd1 hd2 hsc
                go_wp2_with fail
                go_quiet (fail)
                all_goals
                  go_wp2_with fail
                  go_quiet (fail)
                  all_goals
                    go_wp2
                    go_roundw
                    case rel => exact ⟨k + 1, by omega, by go_num, by rw [hnext.out, hsame.out]; exact HO.kept ((hE3.drewN _).grownBy none) (by simp [Value.ownBlock]), hE2.drewN _⟩
                    case measure => simp [intOf]; omega
              · have hnew := Lib.hid (insB_new' hmp.out hms hn)
                have hcap : s.length ≤ cs ∧ cs ≤ maxLen := by
                  rcases HO.2 with ⟨h1, _⟩ | ⟨g1, cap1, cur1, h1, _, _, h2, h3, _⟩
                  · cases h1
                  · simp at h1; obtain ⟨_, rfl⟩ := h1; exact ⟨h2, h3⟩
                obtain ⟨hcap1, hcap2⟩ := hcap
                have hmc : m ≤ cs := by omega
                have hcm : ¬ cs = m := by omega
                have hcm2 : cs ≠ 0 := by omega
                have hn1 : (s[m].1.toList == x.1.toList) = false := name_ne hn
                clear hn
                go_wp2_with fail
                go_quiet (fail)
                all_goals
                  go_wp2_with fail
                  go_quiet (fail)
                  all_goals
                    go_wp2_with fail
                    have hz4 : w.heap.size + 1 ≤ wr.heap.size := Nat.le_trans hz2 hE2.sz
                    have hsrc := Lib.hid (fun W (h : Ext wr W) => src_take (HO.kept ((hE3.trans h).grownBy none) (by simp [Value.ownBlock])) hms0)
                    have hsrd := Lib.hid (fun W (h : Ext wr W) => src_drop (c' := cs - m) (HO.kept ((hE3.trans h).grownBy none) (by simp [Value.ownBlock])) hms0)
                    have c2 := hE2.cell hc2
                    have c3 := hE2.cell hc3
                    have hS : Hid (∀ W, Ext wr W → Ext wr W ∧ W.cell? ⟨g, k * 3, none⟩ = some (.string x.1) ∧ W.cell? ⟨g, k * 3 + 1, none⟩ = some (.int .i64 x.2) ∧ W.cell? ⟨g, k * 3 + 2, none⟩ = some (.int .u64 0)) := fun W h => ⟨h, h.cell c1, h.cell c2, h.cell c3⟩
                    go_region_held_law (fun W => Ext wr W ∧ W.cell? ⟨g, k * 3, none⟩ = some (.string x.1) ∧ W.cell? ⟨g, k * 3 + 1, none⟩ = some (.int .i64 x.2) ∧ W.cell? ⟨g, k * 3 + 2, none⟩ = some (.int .u64 0))
                      (with_reducible (refine hS.out _ ?_; repeat (first | exact And.left (by assumption) | exact Ext.refl _ | exact hE7 | exact hE6 | exact hE5 | refine Ext.drew ?_ | refine Ext.drewN ?_ _ | refine Ext.alloc ?_ _)))
                      (first
                        | ((refine step_append_src rfl (.tmp 57) (.tmp 60) 35 rfl (w.heap.size + 1) 59 Tryd.underlying35 infoB rfl _ 0 [] (own_empty (b := wr.heap.size) (by first | exact (heap_fresh (by (simp; done))) | exact Ext.heap (Ext.alloc (Ext.refl _) _) (heap_fresh (by (simp; done))) | exact Ext.heap (Ext.alloc (Ext.drew (Ext.refl _)) _) (heap_fresh (by (simp; done))) | exact Ext.heap (Ext.drew (Ext.refl _)) (heap_fresh (by (simp; done)))) (by omega)) (by rfl) _ m (bcells (s.take m)) (hsrc.out _ (by with_reducible (repeat (first | exact And.left (by assumption) | exact Ext.refl _ | exact hE7 | exact hE6 | exact hE5 | refine Ext.drew ?_ | refine Ext.drewN ?_ _ | refine Ext.alloc ?_ _)))) (by rfl) (by omega) (Nat.le_trans hz4 (Ext.sz (by with_reducible (repeat (first | exact And.left (by assumption) | exact Ext.refl _ | exact hE7 | exact hE6 | exact hE5 | refine Ext.drew ?_ | refine Ext.drewN ?_ _ | refine Ext.alloc ?_ _))))) ?_; intro v1 w3 HO1 hg1 hat1
                            have hE5 : Ext wr w3 := Ext.grown (by with_reducible (repeat (first | exact And.left (by assumption) | exact Ext.refl _ | exact hE7 | exact hE6 | exact hE5 | refine Ext.drew ?_ | refine Ext.drewN ?_ _ | refine Ext.alloc ?_ _))) hg1 (fun k e => by simp [Value.ownBlock] at e; omega)
                            have hk1 := fun b o (hne : some b ≠ some (wr.heap.size)) (h : _ = some o) => (hg1.block b (heap_lt' h) hne).trans h
                            have hr1 : ∀ k, v1.ownBlock = some k → wr.heap.size ≤ k := fun k e => by rcases hat1 with h | h <;> rw [h] at e <;> simp [Value.ownBlock] at e <;> omega
                            skip))
                        | ((refine step_append_src rfl (.tmp 57) (.tmp 60) 35 rfl (w.heap.size + 1) 59 Tryd.underlying35 infoB rfl _ 0 [] (own_empty (b := wr.heap.size + 1) (by first | exact (heap_fresh (by (simp; done))) | exact Ext.heap (Ext.alloc (Ext.refl _) _) (heap_fresh (by (simp; done))) | exact Ext.heap (Ext.alloc (Ext.drew (Ext.refl _)) _) (heap_fresh (by (simp; done))) | exact Ext.heap (Ext.drew (Ext.refl _)) (heap_fresh (by (simp; done)))) (by omega)) (by rfl) _ m (bcells (s.take m)) (hsrc.out _ (by with_reducible (repeat (first | exact And.left (by assumption) | exact Ext.refl _ | exact hE7 | exact hE6 | exact hE5 | refine Ext.drew ?_ | refine Ext.drewN ?_ _ | refine Ext.alloc ?_ _)))) (by rfl) (by omega) (Nat.le_trans hz4 (Ext.sz (by with_reducible (repeat (first | exact And.left (by assumption) | exact Ext.refl _ | exact hE7 | exact hE6 | exact hE5 | refine Ext.drew ?_ | refine Ext.drewN ?_ _ | refine Ext.alloc ?_ _))))) ?_; intro v1 w3 HO1 hg1 hat1
                            have hE5 : Ext wr w3 := Ext.grown (by with_reducible (repeat (first | exact And.left (by assumption) | exact Ext.refl _ | exact hE7 | exact hE6 | exact hE5 | refine Ext.drew ?_ | refine Ext.drewN ?_ _ | refine Ext.alloc ?_ _))) hg1 (fun k e => by simp [Value.ownBlock] at e; omega)
                            have hk1 := fun b o (hne : some b ≠ some (wr.heap.size + 1)) (h : _ = some o) => (hg1.block b (heap_lt' h) hne).trans h
                            have hr1 : ∀ k, v1.ownBlock = some k → wr.heap.size ≤ k := fun k e => by rcases hat1 with h | h <;> rw [h] at e <;> simp [Value.ownBlock] at e <;> omega
                            skip))
                        | ((refine step_append_src rfl (.tmp 61) (.tmp 66) 35 rfl (w.heap.size + 1) 59 Tryd.underlying35 infoB rfl _ _ _ HO1 (by rfl) _ 1 (bcells [x]) (src_new (b := wr.heap.size) (hk1 _ _ (by simp) (by first | exact (heap_fresh (by (simp; done))) | exact Ext.heap (Ext.alloc (Ext.refl _) _) (heap_fresh (by (simp; done))) | exact Ext.heap (Ext.alloc (Ext.drew (Ext.refl _)) _) (heap_fresh (by (simp; done))) | exact Ext.heap (Ext.drew (Ext.refl _)) (heap_fresh (by (simp; done)))))) (by rfl) (by omega) (Nat.le_trans hz4 (Ext.sz (by with_reducible (repeat (first | exact And.left (by assumption) | exact Ext.refl _ | exact hE7 | exact hE6 | exact hE5 | refine Ext.drew ?_ | refine Ext.drewN ?_ _ | refine Ext.alloc ?_ _))))) ?_; intro v2 w4 HO2 hg2 hat2
                            have hE6 : Ext wr w4 := Ext.grown (by with_reducible (repeat (first | exact And.left (by assumption) | exact Ext.refl _ | exact hE7 | exact hE6 | exact hE5 | refine Ext.drew ?_ | refine Ext.drewN ?_ _ | refine Ext.alloc ?_ _))) hg2 hr1
                            have hr2 : ∀ k, v2.ownBlock = some k → wr.heap.size ≤ k := fun k e => by
                              rcases hat2 with h | h
                              · exact hr1 k (h ▸ e)
                              · rw [h] at e; have := Ext.sz hE5; simp at e; omega))
                        | ((refine step_append_src rfl (.tmp 61) (.tmp 66) 35 rfl (w.heap.size + 1) 59 Tryd.underlying35 infoB rfl _ _ _ HO1 (by rfl) _ 1 (bcells [x]) (src_new (b := wr.heap.size + 1) (hk1 _ _ (by simp) (by first | exact (heap_fresh (by (simp; done))) | exact Ext.heap (Ext.alloc (Ext.refl _) _) (heap_fresh (by (simp; done))) | exact Ext.heap (Ext.alloc (Ext.drew (Ext.refl _)) _) (heap_fresh (by (simp; done))) | exact Ext.heap (Ext.drew (Ext.refl _)) (heap_fresh (by (simp; done)))))) (by rfl) (by omega) (Nat.le_trans hz4 (Ext.sz (by with_reducible (repeat (first | exact And.left (by assumption) | exact Ext.refl _ | exact hE7 | exact hE6 | exact hE5 | refine Ext.drew ?_ | refine Ext.drewN ?_ _ | refine Ext.alloc ?_ _))))) ?_; intro v2 w4 HO2 hg2 hat2
                            have hE6 : Ext wr w4 := Ext.grown (by with_reducible (repeat (first | exact And.left (by assumption) | exact Ext.refl _ | exact hE7 | exact hE6 | exact hE5 | refine Ext.drew ?_ | refine Ext.drewN ?_ _ | refine Ext.alloc ?_ _))) hg2 hr1
                            have hr2 : ∀ k, v2.ownBlock = some k → wr.heap.size ≤ k := fun k e => by
                              rcases hat2 with h | h
                              · exact hr1 k (h ▸ e)
                              · rw [h] at e; have := Ext.sz hE5; simp at e; omega))
                        | ((refine step_append_src rfl (.tmp 61) (.tmp 66) 35 rfl (w.heap.size + 1) 59 Tryd.underlying35 infoB rfl _ _ _ (HO1.kept (Ext.grownBy (Ext.alloc (Ext.refl _) _) none) (by cases h : v1.ownBlock <;> simp)) (by rfl) _ 1 (bcells [x]) (src_new (b := w3.heap.size) (by first | exact (heap_fresh (by (simp; done))) | exact Ext.heap (Ext.alloc (Ext.refl _) _) (heap_fresh (by (simp; done))) | exact Ext.heap (Ext.alloc (Ext.drew (Ext.refl _)) _) (heap_fresh (by (simp; done))) | exact Ext.heap (Ext.drew (Ext.refl _)) (heap_fresh (by (simp; done))))) (by rfl) (by omega) (Nat.le_trans hz4 (Ext.sz (by with_reducible (repeat (first | exact And.left (by assumption) | exact Ext.refl _ | exact hE7 | exact hE6 | exact hE5 | refine Ext.drew ?_ | refine Ext.drewN ?_ _ | refine Ext.alloc ?_ _))))) ?_; intro v2 w4 HO2 hg2 hat2
                            have hE6 : Ext wr w4 := Ext.grown (by with_reducible (repeat (first | exact And.left (by assumption) | exact Ext.refl _ | exact hE7 | exact hE6 | exact hE5 | refine Ext.drew ?_ | refine Ext.drewN ?_ _ | refine Ext.alloc ?_ _))) hg2 hr1
                            have hr2 : ∀ k, v2.ownBlock = some k → wr.heap.size ≤ k := fun k e => by
                              rcases hat2 with h | h
                              · exact hr1 k (h ▸ e)
                              · rw [h] at e; have := Ext.sz hE5; simp at e; omega))
                        | ((refine step_append_src rfl (.tmp 61) (.tmp 66) 35 rfl (w.heap.size + 1) 59 Tryd.underlying35 infoB rfl _ _ _ (HO1.kept (Ext.grownBy (Ext.alloc (Ext.drew (Ext.refl _)) _) none) (by cases h : v1.ownBlock <;> simp)) (by rfl) _ 1 (bcells [x]) (src_new (b := w3.heap.size) (by first | exact (heap_fresh (by (simp; done))) | exact Ext.heap (Ext.alloc (Ext.refl _) _) (heap_fresh (by (simp; done))) | exact Ext.heap (Ext.alloc (Ext.drew (Ext.refl _)) _) (heap_fresh (by (simp; done))) | exact Ext.heap (Ext.drew (Ext.refl _)) (heap_fresh (by (simp; done))))) (by rfl) (by omega) (Nat.le_trans hz4 (Ext.sz (by with_reducible (repeat (first | exact And.left (by assumption) | exact Ext.refl _ | exact hE7 | exact hE6 | exact hE5 | refine Ext.drew ?_ | refine Ext.drewN ?_ _ | refine Ext.alloc ?_ _))))) ?_; intro v2 w4 HO2 hg2 hat2
                            have hE6 : Ext wr w4 := Ext.grown (by with_reducible (repeat (first | exact And.left (by assumption) | exact Ext.refl _ | exact hE7 | exact hE6 | exact hE5 | refine Ext.drew ?_ | refine Ext.drewN ?_ _ | refine Ext.alloc ?_ _))) hg2 hr1
                            have hr2 : ∀ k, v2.ownBlock = some k → wr.heap.size ≤ k := fun k e => by
                              rcases hat2 with h | h
                              · exact hr1 k (h ▸ e)
                              · rw [h] at e; have := Ext.sz hE5; simp at e; omega))
                        | ((refine step_append_src rfl (.tmp 67) (.tmp 70) 35 rfl (w.heap.size + 1) 59 Tryd.underlying35 infoB rfl _ _ _ HO2 (by rfl) _ (s.length - m) (bcells (s.drop m)) (hsrd.out _ (by with_reducible (repeat (first | exact And.left (by assumption) | exact Ext.refl _ | exact hE7 | exact hE6 | exact hE5 | refine Ext.drew ?_ | refine Ext.drewN ?_ _ | refine Ext.alloc ?_ _)))) (by rfl) (by omega) (Nat.le_trans hz4 (Ext.sz (by with_reducible (repeat (first | exact And.left (by assumption) | exact Ext.refl _ | exact hE7 | exact hE6 | exact hE5 | refine Ext.drew ?_ | refine Ext.drewN ?_ _ | refine Ext.alloc ?_ _))))) ?_; intro v3 w5 HO3 hg3 hat3
                            have hE7 : Ext wr w5 := Ext.grown (by with_reducible (repeat (first | exact And.left (by assumption) | exact Ext.refl _ | exact hE7 | exact hE6 | exact hE5 | refine Ext.drew ?_ | refine Ext.drewN ?_ _ | refine Ext.alloc ?_ _))) hg3 hr2))
                        | ((refine step_append_src rfl (.tmp 67) (.tmp 70) 35 rfl (w.heap.size + 1) 59 Tryd.underlying35 infoB rfl _ _ _ (HO2.kept (Ext.grownBy (Ext.drew (Ext.refl _)) none) (by cases h : v2.ownBlock <;> simp)) (by rfl) _ (s.length - m) (bcells (s.drop m)) (hsrd.out _ (by with_reducible (repeat (first | exact And.left (by assumption) | exact Ext.refl _ | exact hE7 | exact hE6 | exact hE5 | refine Ext.drew ?_ | refine Ext.drewN ?_ _ | refine Ext.alloc ?_ _)))) (by rfl) (by omega) (Nat.le_trans hz4 (Ext.sz (by with_reducible (repeat (first | exact And.left (by assumption) | exact Ext.refl _ | exact hE7 | exact hE6 | exact hE5 | refine Ext.drew ?_ | refine Ext.drewN ?_ _ | refine Ext.alloc ?_ _))))) ?_; intro v3 w5 HO3 hg3 hat3
                            have hE7 : Ext wr w5 := Ext.grown (by with_reducible (repeat (first | exact And.left (by assumption) | exact Ext.refl _ | exact hE7 | exact hE6 | exact hE5 | refine Ext.drew ?_ | refine Ext.drewN ?_ _ | refine Ext.alloc ?_ _))) hg3 hr2)))
                    all_goals
                      go_wp2
                      go_roundw
                      case rel => exact ⟨k + 1, by omega, by go_num, by rw [hnext.out]; exact row_ins hnew.out hms0 HO3, hE2.trans hE7⟩
                      case measure => simp [intOf]; omega
            · obtain rfl : m = s.length := by omega
              have hnew := Lib.hid (insB_end (x := x) hmp.out.symm)
              clear hms0 hms hmp hcell hsc
              rcases HO.2 with ⟨h1, h2⟩ | ⟨g', cap, cur, h1, _, _, hcap1, hcap2, _⟩
              · obtain rfl : s = [] := List.eq_nil_of_length_eq_zero h2
                cases h1
                clear h2
                go_wp2_with fail
                go_quiet (fail)
                all_goals
                  go_wp2_with fail
                  go_quiet (fail)
                  all_goals
                    go_wp2_with fail
                    have hz4 : w.heap.size + 1 ≤ wr.heap.size := Nat.le_trans hz2 hE2.sz
                    have hsrc := Lib.hid (fun W (h : Ext wr W) => src_none W)
                    have hsrd := Lib.hid (fun W (h : Ext wr W) => src_none W)
                    have c2 := hE2.cell hc2
                    have c3 := hE2.cell hc3
                    have hS : Hid (∀ W, Ext wr W → Ext wr W ∧ W.cell? ⟨g, k * 3, none⟩ = some (.string x.1) ∧ W.cell? ⟨g, k * 3 + 1, none⟩ = some (.int .i64 x.2) ∧ W.cell? ⟨g, k * 3 + 2, none⟩ = some (.int .u64 0)) := fun W h => ⟨h, h.cell c1, h.cell c2, h.cell c3⟩
                    go_region_held_law (fun W => Ext wr W ∧ W.cell? ⟨g, k * 3, none⟩ = some (.string x.1) ∧ W.cell? ⟨g, k * 3 + 1, none⟩ = some (.int .i64 x.2) ∧ W.cell? ⟨g, k * 3 + 2, none⟩ = some (.int .u64 0))
                      (with_reducible (refine hS.out _ ?_; repeat (first | exact And.left (by assumption) | exact Ext.refl _ | exact hE7 | exact hE6 | exact hE5 | refine Ext.drew ?_ | refine Ext.drewN ?_ _ | refine Ext.alloc ?_ _)))
                      (first
                        | ((refine step_append_src rfl (.tmp 57) (.tmp 60) 35 rfl (w.heap.size + 1) 59 Tryd.underlying35 infoB rfl _ 0 [] (own_empty (b := wr.heap.size) (by first | exact (heap_fresh (by (simp; done))) | exact Ext.heap (Ext.alloc (Ext.refl _) _) (heap_fresh (by (simp; done))) | exact Ext.heap (Ext.alloc (Ext.drew (Ext.refl _)) _) (heap_fresh (by (simp; done))) | exact Ext.heap (Ext.drew (Ext.refl _)) (heap_fresh (by (simp; done)))) (by omega)) (by rfl) _ 0 [] (hsrc.out _ (by with_reducible (repeat (first | exact And.left (by assumption) | exact Ext.refl _ | exact hE7 | exact hE6 | exact hE5 | refine Ext.drew ?_ | refine Ext.drewN ?_ _ | refine Ext.alloc ?_ _)))) (by rfl) (by omega) (Nat.le_trans hz4 (Ext.sz (by with_reducible (repeat (first | exact And.left (by assumption) | exact Ext.refl _ | exact hE7 | exact hE6 | exact hE5 | refine Ext.drew ?_ | refine Ext.drewN ?_ _ | refine Ext.alloc ?_ _))))) ?_; intro v1 w3 HO1 hg1 hat1
                            have hE5 : Ext wr w3 := Ext.grown (by with_reducible (repeat (first | exact And.left (by assumption) | exact Ext.refl _ | exact hE7 | exact hE6 | exact hE5 | refine Ext.drew ?_ | refine Ext.drewN ?_ _ | refine Ext.alloc ?_ _))) hg1 (fun k e => by simp [Value.ownBlock] at e; omega)
                            have hk1 := fun b o (hne : some b ≠ some (wr.heap.size)) (h : _ = some o) => (hg1.block b (heap_lt' h) hne).trans h
                            have hr1 : ∀ k, v1.ownBlock = some k → wr.heap.size ≤ k := fun k e => by rcases hat1 with h | h <;> rw [h] at e <;> simp [Value.ownBlock] at e <;> omega
                            skip))
                        | ((refine step_append_src rfl (.tmp 57) (.tmp 60) 35 rfl (w.heap.size + 1) 59 Tryd.underlying35 infoB rfl _ 0 [] (own_empty (b := wr.heap.size + 1) (by first | exact (heap_fresh (by (simp; done))) | exact Ext.heap (Ext.alloc (Ext.refl _) _) (heap_fresh (by (simp; done))) | exact Ext.heap (Ext.alloc (Ext.drew (Ext.refl _)) _) (heap_fresh (by (simp; done))) | exact Ext.heap (Ext.drew (Ext.refl _)) (heap_fresh (by (simp; done)))) (by omega)) (by rfl) _ 0 [] (hsrc.out _ (by with_reducible (repeat (first | exact And.left (by assumption) | exact Ext.refl _ | exact hE7 | exact hE6 | exact hE5 | refine Ext.drew ?_ | refine Ext.drewN ?_ _ | refine Ext.alloc ?_ _)))) (by rfl) (by omega) (Nat.le_trans hz4 (Ext.sz (by with_reducible (repeat (first | exact And.left (by assumption) | exact Ext.refl _ | exact hE7 | exact hE6 | exact hE5 | refine Ext.drew ?_ | refine Ext.drewN ?_ _ | refine Ext.alloc ?_ _))))) ?_; intro v1 w3 HO1 hg1 hat1
                            have hE5 : Ext wr w3 := Ext.grown (by with_reducible (repeat (first | exact And.left (by assumption) | exact Ext.refl _ | exact hE7 | exact hE6 | exact hE5 | refine Ext.drew ?_ | refine Ext.drewN ?_ _ | refine Ext.alloc ?_ _))) hg1 (fun k e => by simp [Value.ownBlock] at e; omega)
                            have hk1 := fun b o (hne : some b ≠ some (wr.heap.size + 1)) (h : _ = some o) => (hg1.block b (heap_lt' h) hne).trans h
                            have hr1 : ∀ k, v1.ownBlock = some k → wr.heap.size ≤ k := fun k e => by rcases hat1 with h | h <;> rw [h] at e <;> simp [Value.ownBlock] at e <;> omega
                            skip))
                        | ((refine step_append_src rfl (.tmp 61) (.tmp 66) 35 rfl (w.heap.size + 1) 59 Tryd.underlying35 infoB rfl _ _ _ HO1 (by rfl) _ 1 (bcells [x]) (src_new (b := wr.heap.size) (hk1 _ _ (by simp) (by first | exact (heap_fresh (by (simp; done))) | exact Ext.heap (Ext.alloc (Ext.refl _) _) (heap_fresh (by (simp; done))) | exact Ext.heap (Ext.alloc (Ext.drew (Ext.refl _)) _) (heap_fresh (by (simp; done))) | exact Ext.heap (Ext.drew (Ext.refl _)) (heap_fresh (by (simp; done)))))) (by rfl) (by omega) (Nat.le_trans hz4 (Ext.sz (by with_reducible (repeat (first | exact And.left (by assumption) | exact Ext.refl _ | exact hE7 | exact hE6 | exact hE5 | refine Ext.drew ?_ | refine Ext.drewN ?_ _ | refine Ext.alloc ?_ _))))) ?_; intro v2 w4 HO2 hg2 hat2
                            have hE6 : Ext wr w4 := Ext.grown (by with_reducible (repeat (first | exact And.left (by assumption) | exact Ext.refl _ | exact hE7 | exact hE6 | exact hE5 | refine Ext.drew ?_ | refine Ext.drewN ?_ _ | refine Ext.alloc ?_ _))) hg2 hr1
                            have hr2 : ∀ k, v2.ownBlock = some k → wr.heap.size ≤ k := fun k e => by
                              rcases hat2 with h | h
                              · exact hr1 k (h ▸ e)
                              · rw [h] at e; have := Ext.sz hE5; simp at e; omega))
                        | ((refine step_append_src rfl (.tmp 61) (.tmp 66) 35 rfl (w.heap.size + 1) 59 Tryd.underlying35 infoB rfl _ _ _ HO1 (by rfl) _ 1 (bcells [x]) (src_new (b := wr.heap.size + 1) (hk1 _ _ (by simp) (by first | exact (heap_fresh (by (simp; done))) | exact Ext.heap (Ext.alloc (Ext.refl _) _) (heap_fresh (by (simp; done))) | exact Ext.heap (Ext.alloc (Ext.drew (Ext.refl _)) _) (heap_fresh (by (simp; done))) | exact Ext.heap (Ext.drew (Ext.refl _)) (heap_fresh (by (simp; done)))))) (by rfl) (by omega) (Nat.le_trans hz4 (Ext.sz (by with_reducible (repeat (first | exact And.left (by assumption) | exact Ext.refl _ | exact hE7 | exact hE6 | exact hE5 | refine Ext.drew ?_ | refine Ext.drewN ?_ _ | refine Ext.alloc ?_ _))))) ?_; intro v2 w4 HO2 hg2 hat2
                            have hE6 : Ext wr w4 := Ext.grown (by with_reducible (repeat (first | exact And.left (by assumption) | exact Ext.refl _ | exact hE7 | exact hE6 | exact hE5 | refine Ext.drew ?_ | refine Ext.drewN ?_ _ | refine Ext.alloc ?_ _))) hg2 hr1
                            have hr2 : ∀ k, v2.ownBlock = some k → wr.heap.size ≤ k := fun k e => by
                              rcases hat2 with h | h
                              · exact hr1 k (h ▸ e)
                              · rw [h] at e; have := Ext.sz hE5; simp at e; omega))
                        | ((refine step_append_src rfl (.tmp 61) (.tmp 66) 35 rfl (w.heap.size + 1) 59 Tryd.underlying35 infoB rfl _ _ _ (HO1.kept (Ext.grownBy (Ext.alloc (Ext.refl _) _) none) (by cases h : v1.ownBlock <;> simp)) (by rfl) _ 1 (bcells [x]) (src_new (b := w3.heap.size) (by first | exact (heap_fresh (by (simp; done))) | exact Ext.heap (Ext.alloc (Ext.refl _) _) (heap_fresh (by (simp; done))) | exact Ext.heap (Ext.alloc (Ext.drew (Ext.refl _)) _) (heap_fresh (by (simp; done))) | exact Ext.heap (Ext.drew (Ext.refl _)) (heap_fresh (by (simp; done))))) (by rfl) (by omega) (Nat.le_trans hz4 (Ext.sz (by with_reducible (repeat (first | exact And.left (by assumption) | exact Ext.refl _ | exact hE7 | exact hE6 | exact hE5 | refine Ext.drew ?_ | refine Ext.drewN ?_ _ | refine Ext.alloc ?_ _))))) ?_; intro v2 w4 HO2 hg2 hat2
                            have hE6 : Ext wr w4 := Ext.grown (by with_reducible (repeat (first | exact And.left (by assumption) | exact Ext.refl _ | exact hE7 | exact hE6 | exact hE5 | refine Ext.drew ?_ | refine Ext.drewN ?_ _ | refine Ext.alloc ?_ _))) hg2 hr1
                            have hr2 : ∀ k, v2.ownBlock = some k → wr.heap.size ≤ k := fun k e => by
                              rcases hat2 with h | h
                              · exact hr1 k (h ▸ e)
                              · rw [h] at e; have := Ext.sz hE5; simp at e; omega))
                        | ((refine step_append_src rfl (.tmp 61) (.tmp 66) 35 rfl (w.heap.size + 1) 59 Tryd.underlying35 infoB rfl _ _ _ (HO1.kept (Ext.grownBy (Ext.alloc (Ext.drew (Ext.refl _)) _) none) (by cases h : v1.ownBlock <;> simp)) (by rfl) _ 1 (bcells [x]) (src_new (b := w3.heap.size) (by first | exact (heap_fresh (by (simp; done))) | exact Ext.heap (Ext.alloc (Ext.refl _) _) (heap_fresh (by (simp; done))) | exact Ext.heap (Ext.alloc (Ext.drew (Ext.refl _)) _) (heap_fresh (by (simp; done))) | exact Ext.heap (Ext.drew (Ext.refl _)) (heap_fresh (by (simp; done))))) (by rfl) (by omega) (Nat.le_trans hz4 (Ext.sz (by with_reducible (repeat (first | exact And.left (by assumption) | exact Ext.refl _ | exact hE7 | exact hE6 | exact hE5 | refine Ext.drew ?_ | refine Ext.drewN ?_ _ | refine Ext.alloc ?_ _))))) ?_; intro v2 w4 HO2 hg2 hat2
                            have hE6 : Ext wr w4 := Ext.grown (by with_reducible (repeat (first | exact And.left (by assumption) | exact Ext.refl _ | exact hE7 | exact hE6 | exact hE5 | refine Ext.drew ?_ | refine Ext.drewN ?_ _ | refine Ext.alloc ?_ _))) hg2 hr1
                            have hr2 : ∀ k, v2.ownBlock = some k → wr.heap.size ≤ k := fun k e => by
                              rcases hat2 with h | h
                              · exact hr1 k (h ▸ e)
                              · rw [h] at e; have := Ext.sz hE5; simp at e; omega))
                        | ((refine step_append_src rfl (.tmp 67) (.tmp 70) 35 rfl (w.heap.size + 1) 59 Tryd.underlying35 infoB rfl _ _ _ HO2 (by rfl) _ 0 [] (hsrd.out _ (by with_reducible (repeat (first | exact And.left (by assumption) | exact Ext.refl _ | exact hE7 | exact hE6 | exact hE5 | refine Ext.drew ?_ | refine Ext.drewN ?_ _ | refine Ext.alloc ?_ _)))) (by rfl) (by omega) (Nat.le_trans hz4 (Ext.sz (by with_reducible (repeat (first | exact And.left (by assumption) | exact Ext.refl _ | exact hE7 | exact hE6 | exact hE5 | refine Ext.drew ?_ | refine Ext.drewN ?_ _ | refine Ext.alloc ?_ _))))) ?_; intro v3 w5 HO3 hg3 hat3
                            have hE7 : Ext wr w5 := Ext.grown (by with_reducible (repeat (first | exact And.left (by assumption) | exact Ext.refl _ | exact hE7 | exact hE6 | exact hE5 | refine Ext.drew ?_ | refine Ext.drewN ?_ _ | refine Ext.alloc ?_ _))) hg3 hr2))
                        | ((refine step_append_src rfl (.tmp 67) (.tmp 70) 35 rfl (w.heap.size + 1) 59 Tryd.underlying35 infoB rfl _ _ _ (HO2.kept (Ext.grownBy (Ext.drew (Ext.refl _)) none) (by cases h : v2.ownBlock <;> simp)) (by rfl) _ 0 [] (hsrd.out _ (by with_reducible (repeat (first | exact And.left (by assumption) | exact Ext.refl _ | exact hE7 | exact hE6 | exact hE5 | refine Ext.drew ?_ | refine Ext.drewN ?_ _ | refine Ext.alloc ?_ _)))) (by rfl) (by omega) (Nat.le_trans hz4 (Ext.sz (by with_reducible (repeat (first | exact And.left (by assumption) | exact Ext.refl _ | exact hE7 | exact hE6 | exact hE5 | refine Ext.drew ?_ | refine Ext.drewN ?_ _ | refine Ext.alloc ?_ _))))) ?_; intro v3 w5 HO3 hg3 hat3
                            have hE7 : Ext wr w5 := Ext.grown (by with_reducible (repeat (first | exact And.left (by assumption) | exact Ext.refl _ | exact hE7 | exact hE6 | exact hE5 | refine Ext.drew ?_ | refine Ext.drewN ?_ _ | refine Ext.alloc ?_ _))) hg3 hr2)))
                    all_goals
                      go_wp2
                      go_roundw
                      case rel => exact ⟨k + 1, by omega, by go_num, by rw [hnext.out]; exact row_end hnew.out HO3, hE2.trans hE7⟩
                      case measure => simp [intOf]; omega
              · simp only [Value.slice.injEq, true_and] at h1
                obtain ⟨rfl, rfl⟩ := h1
                by_cases hcs : cs = s.length
                · have HOk := Lib.hid HO
                  subst hcs
                  go_wp2_with fail
                  go_quiet (fail)
                  all_goals
                    go_wp2_with fail
                    go_quiet (fail)
                    all_goals
                      go_wp2_with fail
                      have hz4 : w.heap.size + 1 ≤ wr.heap.size := Nat.le_trans hz2 hE2.sz
                      have hsrc := Lib.hid (fun W (h : Ext wr W) => src_all (HOk.out.kept ((hE3.trans h).grownBy none) (by simp [Value.ownBlock])))
                      have hsrd := Lib.hid (fun W (h : Ext wr W) => src_zero W ⟨g', 0, none⟩ 0)
                      have c2 := hE2.cell hc2
                      have c3 := hE2.cell hc3
                      have hS : Hid (∀ W, Ext wr W → Ext wr W ∧ W.cell? ⟨g, k * 3, none⟩ = some (.string x.1) ∧ W.cell? ⟨g, k * 3 + 1, none⟩ = some (.int .i64 x.2) ∧ W.cell? ⟨g, k * 3 + 2, none⟩ = some (.int .u64 0)) := fun W h => ⟨h, h.cell c1, h.cell c2, h.cell c3⟩
                      go_region_held_law (fun W => Ext wr W ∧ W.cell? ⟨g, k * 3, none⟩ = some (.string x.1) ∧ W.cell? ⟨g, k * 3 + 1, none⟩ = some (.int .i64 x.2) ∧ W.cell? ⟨g, k * 3 + 2, none⟩ = some (.int .u64 0))
                        (with_reducible (refine hS.out _ ?_; repeat (first | exact And.left (by assumption) | exact Ext.refl _ | exact hE7 | exact hE6 | exact hE5 | refine Ext.drew ?_ | refine Ext.drewN ?_ _ | refine Ext.alloc ?_ _)))
                        (first
                          | ((refine step_append_src rfl (.tmp 57) (.tmp 60) 35 rfl (w.heap.size + 1) 59 Tryd.underlying35 infoB rfl _ 0 [] (own_empty (b := wr.heap.size) (by first | exact (heap_fresh (by (simp; done))) | exact Ext.heap (Ext.alloc (Ext.refl _) _) (heap_fresh (by (simp; done))) | exact Ext.heap (Ext.alloc (Ext.drew (Ext.refl _)) _) (heap_fresh (by (simp; done))) | exact Ext.heap (Ext.drew (Ext.refl _)) (heap_fresh (by (simp; done)))) (by omega)) (by rfl) _ s.length (bcells s) (hsrc.out _ (by with_reducible (repeat (first | exact And.left (by assumption) | exact Ext.refl _ | exact hE7 | exact hE6 | exact hE5 | refine Ext.drew ?_ | refine Ext.drewN ?_ _ | refine Ext.alloc ?_ _)))) (by rfl) (by omega) (Nat.le_trans hz4 (Ext.sz (by with_reducible (repeat (first | exact And.left (by assumption) | exact Ext.refl _ | exact hE7 | exact hE6 | exact hE5 | refine Ext.drew ?_ | refine Ext.drewN ?_ _ | refine Ext.alloc ?_ _))))) ?_; intro v1 w3 HO1 hg1 hat1
                              have hE5 : Ext wr w3 := Ext.grown (by with_reducible (repeat (first | exact And.left (by assumption) | exact Ext.refl _ | exact hE7 | exact hE6 | exact hE5 | refine Ext.drew ?_ | refine Ext.drewN ?_ _ | refine Ext.alloc ?_ _))) hg1 (fun k e => by simp [Value.ownBlock] at e; omega)
                              have hk1 := fun b o (hne : some b ≠ some (wr.heap.size)) (h : _ = some o) => (hg1.block b (heap_lt' h) hne).trans h
                              have hr1 : ∀ k, v1.ownBlock = some k → wr.heap.size ≤ k := fun k e => by rcases hat1 with h | h <;> rw [h] at e <;> simp [Value.ownBlock] at e <;> omega
                              skip))
                          | ((refine step_append_src rfl (.tmp 57) (.tmp 60) 35 rfl (w.heap.size + 1) 59 Tryd.underlying35 infoB rfl _ 0 [] (own_empty (b := wr.heap.size + 1) (by first | exact (heap_fresh (by (simp; done))) | exact Ext.heap (Ext.alloc (Ext.refl _) _) (heap_fresh (by (simp; done))) | exact Ext.heap (Ext.alloc (Ext.drew (Ext.refl _)) _) (heap_fresh (by (simp; done))) | exact Ext.heap (Ext.drew (Ext.refl _)) (heap_fresh (by (simp; done)))) (by omega)) (by rfl) _ s.length (bcells s) (hsrc.out _ (by with_reducible (repeat (first | exact And.left (by assumption) | exact Ext.refl _ | exact hE7 | exact hE6 | exact hE5 | refine Ext.drew ?_ | refine Ext.drewN ?_ _ | refine Ext.alloc ?_ _)))) (by rfl) (by omega) (Nat.le_trans hz4 (Ext.sz (by with_reducible (repeat (first | exact And.left (by assumption) | exact Ext.refl _ | exact hE7 | exact hE6 | exact hE5 | refine Ext.drew ?_ | refine Ext.drewN ?_ _ | refine Ext.alloc ?_ _))))) ?_; intro v1 w3 HO1 hg1 hat1
                              have hE5 : Ext wr w3 := Ext.grown (by with_reducible (repeat (first | exact And.left (by assumption) | exact Ext.refl _ | exact hE7 | exact hE6 | exact hE5 | refine Ext.drew ?_ | refine Ext.drewN ?_ _ | refine Ext.alloc ?_ _))) hg1 (fun k e => by simp [Value.ownBlock] at e; omega)
                              have hk1 := fun b o (hne : some b ≠ some (wr.heap.size + 1)) (h : _ = some o) => (hg1.block b (heap_lt' h) hne).trans h
                              have hr1 : ∀ k, v1.ownBlock = some k → wr.heap.size ≤ k := fun k e => by rcases hat1 with h | h <;> rw [h] at e <;> simp [Value.ownBlock] at e <;> omega
                              skip))
                          | ((refine step_append_src rfl (.tmp 61) (.tmp 66) 35 rfl (w.heap.size + 1) 59 Tryd.underlying35 infoB rfl _ _ _ HO1 (by rfl) _ 1 (bcells [x]) (src_new (b := wr.heap.size) (hk1 _ _ (by simp) (by first | exact (heap_fresh (by (simp; done))) | exact Ext.heap (Ext.alloc (Ext.refl _) _) (heap_fresh (by (simp; done))) | exact Ext.heap (Ext.alloc (Ext.drew (Ext.refl _)) _) (heap_fresh (by (simp; done))) | exact Ext.heap (Ext.drew (Ext.refl _)) (heap_fresh (by (simp; done)))))) (by rfl) (by omega) (Nat.le_trans hz4 (Ext.sz (by with_reducible (repeat (first | exact And.left (by assumption) | exact Ext.refl _ | exact hE7 | exact hE6 | exact hE5 | refine Ext.drew ?_ | refine Ext.drewN ?_ _ | refine Ext.alloc ?_ _))))) ?_; intro v2 w4 HO2 hg2 hat2
                              have hE6 : Ext wr w4 := Ext.grown (by with_reducible (repeat (first | exact And.left (by assumption) | exact Ext.refl _ | exact hE7 | exact hE6 | exact hE5 | refine Ext.drew ?_ | refine Ext.drewN ?_ _ | refine Ext.alloc ?_ _))) hg2 hr1
                              have hr2 : ∀ k, v2.ownBlock = some k → wr.heap.size ≤ k := fun k e => by
                                rcases hat2 with h | h
                                · exact hr1 k (h ▸ e)
                                · rw [h] at e; have := Ext.sz hE5; simp at e; omega))
                          | ((refine step_append_src rfl (.tmp 61) (.tmp 66) 35 rfl (w.heap.size + 1) 59 Tryd.underlying35 infoB rfl _ _ _ HO1 (by rfl) _ 1 (bcells [x]) (src_new (b := wr.heap.size + 1) (hk1 _ _ (by simp) (by first | exact (heap_fresh (by (simp; done))) | exact Ext.heap (Ext.alloc (Ext.refl _) _) (heap_fresh (by (simp; done))) | exact Ext.heap (Ext.alloc (Ext.drew (Ext.refl _)) _) (heap_fresh (by (simp; done))) | exact Ext.heap (Ext.drew (Ext.refl _)) (heap_fresh (by (simp; done)))))) (by rfl) (by omega) (Nat.le_trans hz4 (Ext.sz (by with_reducible (repeat (first | exact And.left (by assumption) | exact Ext.refl _ | exact hE7 | exact hE6 | exact hE5 | refine Ext.drew ?_ | refine Ext.drewN ?_ _ | refine Ext.alloc ?_ _))))) ?_; intro v2 w4 HO2 hg2 hat2
                              have hE6 : Ext wr w4 := Ext.grown (by with_reducible (repeat (first | exact And.left (by assumption) | exact Ext.refl _ | exact hE7 | exact hE6 | exact hE5 | refine Ext.drew ?_ | refine Ext.drewN ?_ _ | refine Ext.alloc ?_ _))) hg2 hr1
                              have hr2 : ∀ k, v2.ownBlock = some k → wr.heap.size ≤ k := fun k e => by
                                rcases hat2 with h | h
                                · exact hr1 k (h ▸ e)
                                · rw [h] at e; have := Ext.sz hE5; simp at e; omega))
                          | ((refine step_append_src rfl (.tmp 61) (.tmp 66) 35 rfl (w.heap.size + 1) 59 Tryd.underlying35 infoB rfl _ _ _ (HO1.kept (Ext.grownBy (Ext.alloc (Ext.refl _) _) none) (by cases h : v1.ownBlock <;> simp)) (by rfl) _ 1 (bcells [x]) (src_new (b := w3.heap.size) (by first | exact (heap_fresh (by (simp; done))) | exact Ext.heap (Ext.alloc (Ext.refl _) _) (heap_fresh (by (simp; done))) | exact Ext.heap (Ext.alloc (Ext.drew (Ext.refl _)) _) (heap_fresh (by (simp; done))) | exact Ext.heap (Ext.drew (Ext.refl _)) (heap_fresh (by (simp; done))))) (by rfl) (by omega) (Nat.le_trans hz4 (Ext.sz (by with_reducible (repeat (first | exact And.left (by assumption) | exact Ext.refl _ | exact hE7 | exact hE6 | exact hE5 | refine Ext.drew ?_ | refine Ext.drewN ?_ _ | refine Ext.alloc ?_ _))))) ?_; intro v2 w4 HO2 hg2 hat2
                              have hE6 : Ext wr w4 := Ext.grown (by with_reducible (repeat (first | exact And.left (by assumption) | exact Ext.refl _ | exact hE7 | exact hE6 | exact hE5 | refine Ext.drew ?_ | refine Ext.drewN ?_ _ | refine Ext.alloc ?_ _))) hg2 hr1
                              have hr2 : ∀ k, v2.ownBlock = some k → wr.heap.size ≤ k := fun k e => by
                                rcases hat2 with h | h
                                · exact hr1 k (h ▸ e)
                                · rw [h] at e; have := Ext.sz hE5; simp at e; omega))
                          | ((refine step_append_src rfl (.tmp 61) (.tmp 66) 35 rfl (w.heap.size + 1) 59 Tryd.underlying35 infoB rfl _ _ _ (HO1.kept (Ext.grownBy (Ext.alloc (Ext.drew (Ext.refl _)) _) none) (by cases h : v1.ownBlock <;> simp)) (by rfl) _ 1 (bcells [x]) (src_new (b := w3.heap.size) (by first | exact (heap_fresh (by (simp; done))) | exact Ext.heap (Ext.alloc (Ext.refl _) _) (heap_fresh (by (simp; done))) | exact Ext.heap (Ext.alloc (Ext.drew (Ext.refl _)) _) (heap_fresh (by (simp; done))) | exact Ext.heap (Ext.drew (Ext.refl _)) (heap_fresh (by (simp; done))))) (by rfl) (by omega) (Nat.le_trans hz4 (Ext.sz (by with_reducible (repeat (first | exact And.left (by assumption) | exact Ext.refl _ | exact hE7 | exact hE6 | exact hE5 | refine Ext.drew ?_ | refine Ext.drewN ?_ _ | refine Ext.alloc ?_ _))))) ?_; intro v2 w4 HO2 hg2 hat2
                              have hE6 : Ext wr w4 := Ext.grown (by with_reducible (repeat (first | exact And.left (by assumption) | exact Ext.refl _ | exact hE7 | exact hE6 | exact hE5 | refine Ext.drew ?_ | refine Ext.drewN ?_ _ | refine Ext.alloc ?_ _))) hg2 hr1
                              have hr2 : ∀ k, v2.ownBlock = some k → wr.heap.size ≤ k := fun k e => by
                                rcases hat2 with h | h
                                · exact hr1 k (h ▸ e)
                                · rw [h] at e; have := Ext.sz hE5; simp at e; omega))
                          | ((refine step_append_src rfl (.tmp 67) (.tmp 70) 35 rfl (w.heap.size + 1) 59 Tryd.underlying35 infoB rfl _ _ _ HO2 (by rfl) _ 0 [] (hsrd.out _ (by with_reducible (repeat (first | exact And.left (by assumption) | exact Ext.refl _ | exact hE7 | exact hE6 | exact hE5 | refine Ext.drew ?_ | refine Ext.drewN ?_ _ | refine Ext.alloc ?_ _)))) (by rfl) (by omega) (Nat.le_trans hz4 (Ext.sz (by with_reducible (repeat (first | exact And.left (by assumption) | exact Ext.refl _ | exact hE7 | exact hE6 | exact hE5 | refine Ext.drew ?_ | refine Ext.drewN ?_ _ | refine Ext.alloc ?_ _))))) ?_; intro v3 w5 HO3 hg3 hat3
                              have hE7 : Ext wr w5 := Ext.grown (by with_reducible (repeat (first | exact And.left (by assumption) | exact Ext.refl _ | exact hE7 | exact hE6 | exact hE5 | refine Ext.drew ?_ | refine Ext.drewN ?_ _ | refine Ext.alloc ?_ _))) hg3 hr2))
                          | ((refine step_append_src rfl (.tmp 67) (.tmp 70) 35 rfl (w.heap.size + 1) 59 Tryd.underlying35 infoB rfl _ _ _ (HO2.kept (Ext.grownBy (Ext.drew (Ext.refl _)) none) (by cases h : v2.ownBlock <;> simp)) (by rfl) _ 0 [] (hsrd.out _ (by with_reducible (repeat (first | exact And.left (by assumption) | exact Ext.refl _ | exact hE7 | exact hE6 | exact hE5 | refine Ext.drew ?_ | refine Ext.drewN ?_ _ | refine Ext.alloc ?_ _)))) (by rfl) (by omega) (Nat.le_trans hz4 (Ext.sz (by with_reducible (repeat (first | exact And.left (by assumption) | exact Ext.refl _ | exact hE7 | exact hE6 | exact hE5 | refine Ext.drew ?_ | refine Ext.drewN ?_ _ | refine Ext.alloc ?_ _))))) ?_; intro v3 w5 HO3 hg3 hat3
                              have hE7 : Ext wr w5 := Ext.grown (by with_reducible (repeat (first | exact And.left (by assumption) | exact Ext.refl _ | exact hE7 | exact hE6 | exact hE5 | refine Ext.drew ?_ | refine Ext.drewN ?_ _ | refine Ext.alloc ?_ _))) hg3 hr2)))
                      all_goals
                        go_wp2
                        go_roundw
                        case rel => exact ⟨k + 1, by omega, by go_num, by rw [hnext.out]; exact row_end hnew.out HO3, hE2.trans hE7⟩
                        case measure => simp [intOf]; omega
                · have HOk := Lib.hid HO
                  have hcm2 : cs ≠ 0 := by omega
                  go_wp2_with fail
                  go_quiet (fail)
                  all_goals
                    go_wp2_with fail
                    go_quiet (fail)
                    all_goals
                      go_wp2_with fail
                      have hz4 : w.heap.size + 1 ≤ wr.heap.size := Nat.le_trans hz2 hE2.sz
                      have hsrc := Lib.hid (fun W (h : Ext wr W) => src_all (HOk.out.kept ((hE3.trans h).grownBy none) (by simp [Value.ownBlock])))
                      have hsrd := Lib.hid (fun W (h : Ext wr W) => src_zero W ⟨g', s.length * 3, none⟩ (cs - s.length))
                      have c2 := hE2.cell hc2
                      have c3 := hE2.cell hc3
                      have hS : Hid (∀ W, Ext wr W → Ext wr W ∧ W.cell? ⟨g, k * 3, none⟩ = some (.string x.1) ∧ W.cell? ⟨g, k * 3 + 1, none⟩ = some (.int .i64 x.2) ∧ W.cell? ⟨g, k * 3 + 2, none⟩ = some (.int .u64 0)) := fun W h => ⟨h, h.cell c1, h.cell c2, h.cell c3⟩
                      go_region_held_law (fun W => Ext wr W ∧ W.cell? ⟨g, k * 3, none⟩ = some (.string x.1) ∧ W.cell? ⟨g, k * 3 + 1, none⟩ = some (.int .i64 x.2) ∧ W.cell? ⟨g, k * 3 + 2, none⟩ = some (.int .u64 0))
                        (with_reducible (refine hS.out _ ?_; repeat (first | exact And.left (by assumption) | exact Ext.refl _ | exact hE7 | exact hE6 | exact hE5 | refine Ext.drew ?_ | refine Ext.drewN ?_ _ | refine Ext.alloc ?_ _)))
                        (first
                          | ((refine step_append_src rfl (.tmp 57) (.tmp 60) 35 rfl (w.heap.size + 1) 59 Tryd.underlying35 infoB rfl _ 0 [] (own_empty (b := wr.heap.size) (by first | exact (heap_fresh (by (simp; done))) | exact Ext.heap (Ext.alloc (Ext.refl _) _) (heap_fresh (by (simp; done))) | exact Ext.heap (Ext.alloc (Ext.drew (Ext.refl _)) _) (heap_fresh (by (simp; done))) | exact Ext.heap (Ext.drew (Ext.refl _)) (heap_fresh (by (simp; done)))) (by omega)) (by rfl) _ s.length (bcells s) (hsrc.out _ (by with_reducible (repeat (first | exact And.left (by assumption) | exact Ext.refl _ | exact hE7 | exact hE6 | exact hE5 | refine Ext.drew ?_ | refine Ext.drewN ?_ _ | refine Ext.alloc ?_ _)))) (by rfl) (by omega) (Nat.le_trans hz4 (Ext.sz (by with_reducible (repeat (first | exact And.left (by assumption) | exact Ext.refl _ | exact hE7 | exact hE6 | exact hE5 | refine Ext.drew ?_ | refine Ext.drewN ?_ _ | refine Ext.alloc ?_ _))))) ?_; intro v1 w3 HO1 hg1 hat1
                              have hE5 : Ext wr w3 := Ext.grown (by with_reducible (repeat (first | exact And.left (by assumption) | exact Ext.refl _ | exact hE7 | exact hE6 | exact hE5 | refine Ext.drew ?_ | refine Ext.drewN ?_ _ | refine Ext.alloc ?_ _))) hg1 (fun k e => by simp [Value.ownBlock] at e; omega)
                              have hk1 := fun b o (hne : some b ≠ some (wr.heap.size)) (h : _ = some o) => (hg1.block b (heap_lt' h) hne).trans h
                              have hr1 : ∀ k, v1.ownBlock = some k → wr.heap.size ≤ k := fun k e => by rcases hat1 with h | h <;> rw [h] at e <;> simp [Value.ownBlock] at e <;> omega
                              skip))
                          | ((refine step_append_src rfl (.tmp 57) (.tmp 60) 35 rfl (w.heap.size + 1) 59 Tryd.underlying35 infoB rfl _ 0 [] (own_empty (b := wr.heap.size + 1) (by first | exact (heap_fresh (by (simp; done))) | exact Ext.heap (Ext.alloc (Ext.refl _) _) (heap_fresh (by (simp; done))) | exact Ext.heap (Ext.alloc (Ext.drew (Ext.refl _)) _) (heap_fresh (by (simp; done))) | exact Ext.heap (Ext.drew (Ext.refl _)) (heap_fresh (by (simp; done)))) (by omega)) (by rfl) _ s.length (bcells s) (hsrc.out _ (by with_reducible (repeat (first | exact And.left (by assumption) | exact Ext.refl _ | exact hE7 | exact hE6 | exact hE5 | refine Ext.drew ?_ | refine Ext.drewN ?_ _ | refine Ext.alloc ?_ _)))) (by rfl) (by omega) (Nat.le_trans hz4 (Ext.sz (by with_reducible (repeat (first | exact And.left (by assumption) | exact Ext.refl _ | exact hE7 | exact hE6 | exact hE5 | refine Ext.drew ?_ | refine Ext.drewN ?_ _ | refine Ext.alloc ?_ _))))) ?_; intro v1 w3 HO1 hg1 hat1
                              have hE5 : Ext wr w3 := Ext.grown (by with_reducible (repeat (first | exact And.left (by assumption) | exact Ext.refl _ | exact hE7 | exact hE6 | exact hE5 | refine Ext.drew ?_ | refine Ext.drewN ?_ _ | refine Ext.alloc ?_ _))) hg1 (fun k e => by simp [Value.ownBlock] at e; omega)
                              have hk1 := fun b o (hne : some b ≠ some (wr.heap.size + 1)) (h : _ = some o) => (hg1.block b (heap_lt' h) hne).trans h
                              have hr1 : ∀ k, v1.ownBlock = some k → wr.heap.size ≤ k := fun k e => by rcases hat1 with h | h <;> rw [h] at e <;> simp [Value.ownBlock] at e <;> omega
                              skip))
                          | ((refine step_append_src rfl (.tmp 61) (.tmp 66) 35 rfl (w.heap.size + 1) 59 Tryd.underlying35 infoB rfl _ _ _ HO1 (by rfl) _ 1 (bcells [x]) (src_new (b := wr.heap.size) (hk1 _ _ (by simp) (by first | exact (heap_fresh (by (simp; done))) | exact Ext.heap (Ext.alloc (Ext.refl _) _) (heap_fresh (by (simp; done))) | exact Ext.heap (Ext.alloc (Ext.drew (Ext.refl _)) _) (heap_fresh (by (simp; done))) | exact Ext.heap (Ext.drew (Ext.refl _)) (heap_fresh (by (simp; done)))))) (by rfl) (by omega) (Nat.le_trans hz4 (Ext.sz (by with_reducible (repeat (first | exact And.left (by assumption) | exact Ext.refl _ | exact hE7 | exact hE6 | exact hE5 | refine Ext.drew ?_ | refine Ext.drewN ?_ _ | refine Ext.alloc ?_ _))))) ?_; intro v2 w4 HO2 hg2 hat2
                              have hE6 : Ext wr w4 := Ext.grown (by with_reducible (repeat (first | exact And.left (by assumption) | exact Ext.refl _ | exact hE7 | exact hE6 | exact hE5 | refine Ext.drew ?_ | refine Ext.drewN ?_ _ | refine Ext.alloc ?_ _))) hg2 hr1
                              have hr2 : ∀ k, v2.ownBlock = some k → wr.heap.size ≤ k := fun k e => by
                                rcases hat2 with h | h
                                · exact hr1 k (h ▸ e)
                                · rw [h] at e; have := Ext.sz hE5; simp at e; omega))
                          | ((refine step_append_src rfl (.tmp 61) (.tmp 66) 35 rfl (w.heap.size + 1) 59 Tryd.underlying35 infoB rfl _ _ _ HO1 (by rfl) _ 1 (bcells [x]) (src_new (b := wr.heap.size + 1) (hk1 _ _ (by simp) (by first | exact (heap_fresh (by (simp; done))) | exact Ext.heap (Ext.alloc (Ext.refl _) _) (heap_fresh (by (simp; done))) | exact Ext.heap (Ext.alloc (Ext.drew (Ext.refl _)) _) (heap_fresh (by (simp; done))) | exact Ext.heap (Ext.drew (Ext.refl _)) (heap_fresh (by (simp; done)))))) (by rfl) (by omega) (Nat.le_trans hz4 (Ext.sz (by with_reducible (repeat (first | exact And.left (by assumption) | exact Ext.refl _ | exact hE7 | exact hE6 | exact hE5 | refine Ext.drew ?_ | refine Ext.drewN ?_ _ | refine Ext.alloc ?_ _))))) ?_; intro v2 w4 HO2 hg2 hat2
                              have hE6 : Ext wr w4 := Ext.grown (by with_reducible (repeat (first | exact And.left (by assumption) | exact Ext.refl _ | exact hE7 | exact hE6 | exact hE5 | refine Ext.drew ?_ | refine Ext.drewN ?_ _ | refine Ext.alloc ?_ _))) hg2 hr1
                              have hr2 : ∀ k, v2.ownBlock = some k → wr.heap.size ≤ k := fun k e => by
                                rcases hat2 with h | h
                                · exact hr1 k (h ▸ e)
                                · rw [h] at e; have := Ext.sz hE5; simp at e; omega))
                          | ((refine step_append_src rfl (.tmp 61) (.tmp 66) 35 rfl (w.heap.size + 1) 59 Tryd.underlying35 infoB rfl _ _ _ (HO1.kept (Ext.grownBy (Ext.alloc (Ext.refl _) _) none) (by cases h : v1.ownBlock <;> simp)) (by rfl) _ 1 (bcells [x]) (src_new (b := w3.heap.size) (by first | exact (heap_fresh (by (simp; done))) | exact Ext.heap (Ext.alloc (Ext.refl _) _) (heap_fresh (by (simp; done))) | exact Ext.heap (Ext.alloc (Ext.drew (Ext.refl _)) _) (heap_fresh (by (simp; done))) | exact Ext.heap (Ext.drew (Ext.refl _)) (heap_fresh (by (simp; done))))) (by rfl) (by omega) (Nat.le_trans hz4 (Ext.sz (by with_reducible (repeat (first | exact And.left (by assumption) | exact Ext.refl _ | exact hE7 | exact hE6 | exact hE5 | refine Ext.drew ?_ | refine Ext.drewN ?_ _ | refine Ext.alloc ?_ _))))) ?_; intro v2 w4 HO2 hg2 hat2
                              have hE6 : Ext wr w4 := Ext.grown (by with_reducible (repeat (first | exact And.left (by assumption) | exact Ext.refl _ | exact hE7 | exact hE6 | exact hE5 | refine Ext.drew ?_ | refine Ext.drewN ?_ _ | refine Ext.alloc ?_ _))) hg2 hr1
                              have hr2 : ∀ k, v2.ownBlock = some k → wr.heap.size ≤ k := fun k e => by
                                rcases hat2 with h | h
                                · exact hr1 k (h ▸ e)
                                · rw [h] at e; have := Ext.sz hE5; simp at e; omega))
                          | ((refine step_append_src rfl (.tmp 61) (.tmp 66) 35 rfl (w.heap.size + 1) 59 Tryd.underlying35 infoB rfl _ _ _ (HO1.kept (Ext.grownBy (Ext.alloc (Ext.drew (Ext.refl _)) _) none) (by cases h : v1.ownBlock <;> simp)) (by rfl) _ 1 (bcells [x]) (src_new (b := w3.heap.size) (by first | exact (heap_fresh (by (simp; done))) | exact Ext.heap (Ext.alloc (Ext.refl _) _) (heap_fresh (by (simp; done))) | exact Ext.heap (Ext.alloc (Ext.drew (Ext.refl _)) _) (heap_fresh (by (simp; done))) | exact Ext.heap (Ext.drew (Ext.refl _)) (heap_fresh (by (simp; done))))) (by rfl) (by omega) (Nat.le_trans hz4 (Ext.sz (by with_reducible (repeat (first | exact And.left (by assumption) | exact Ext.refl _ | exact hE7 | exact hE6 | exact hE5 | refine Ext.drew ?_ | refine Ext.drewN ?_ _ | refine Ext.alloc ?_ _))))) ?_; intro v2 w4 HO2 hg2 hat2
                              have hE6 : Ext wr w4 := Ext.grown (by with_reducible (repeat (first | exact And.left (by assumption) | exact Ext.refl _ | exact hE7 | exact hE6 | exact hE5 | refine Ext.drew ?_ | refine Ext.drewN ?_ _ | refine Ext.alloc ?_ _))) hg2 hr1
                              have hr2 : ∀ k, v2.ownBlock = some k → wr.heap.size ≤ k := fun k e => by
                                rcases hat2 with h | h
                                · exact hr1 k (h ▸ e)
                                · rw [h] at e; have := Ext.sz hE5; simp at e; omega))
                          | ((refine step_append_src rfl (.tmp 67) (.tmp 70) 35 rfl (w.heap.size + 1) 59 Tryd.underlying35 infoB rfl _ _ _ HO2 (by rfl) _ 0 [] (hsrd.out _ (by with_reducible (repeat (first | exact And.left (by assumption) | exact Ext.refl _ | exact hE7 | exact hE6 | exact hE5 | refine Ext.drew ?_ | refine Ext.drewN ?_ _ | refine Ext.alloc ?_ _)))) (by rfl) (by omega) (Nat.le_trans hz4 (Ext.sz (by with_reducible (repeat (first | exact And.left (by assumption) | exact Ext.refl _ | exact hE7 | exact hE6 | exact hE5 | refine Ext.drew ?_ | refine Ext.drewN ?_ _ | refine Ext.alloc ?_ _))))) ?_; intro v3 w5 HO3 hg3 hat3
                              have hE7 : Ext wr w5 := Ext.grown (by with_reducible (repeat (first | exact And.left (by assumption) | exact Ext.refl _ | exact hE7 | exact hE6 | exact hE5 | refine Ext.drew ?_ | refine Ext.drewN ?_ _ | refine Ext.alloc ?_ _))) hg3 hr2))
                          | ((refine step_append_src rfl (.tmp 67) (.tmp 70) 35 rfl (w.heap.size + 1) 59 Tryd.underlying35 infoB rfl _ _ _ (HO2.kept (Ext.grownBy (Ext.drew (Ext.refl _)) none) (by cases h : v2.ownBlock <;> simp)) (by rfl) _ 0 [] (hsrd.out _ (by with_reducible (repeat (first | exact And.left (by assumption) | exact Ext.refl _ | exact hE7 | exact hE6 | exact hE5 | refine Ext.drew ?_ | refine Ext.drewN ?_ _ | refine Ext.alloc ?_ _)))) (by rfl) (by omega) (Nat.le_trans hz4 (Ext.sz (by with_reducible (repeat (first | exact And.left (by assumption) | exact Ext.refl _ | exact hE7 | exact hE6 | exact hE5 | refine Ext.drew ?_ | refine Ext.drewN ?_ _ | refine Ext.alloc ?_ _))))) ?_; intro v3 w5 HO3 hg3 hat3
                              have hE7 : Ext wr w5 := Ext.grown (by with_reducible (repeat (first | exact And.left (by assumption) | exact Ext.refl _ | exact hE7 | exact hE6 | exact hE5 | refine Ext.drew ?_ | refine Ext.drewN ?_ _ | refine Ext.alloc ?_ _))) hg3 hr2)))
                      all_goals
                        go_wp2
                        go_roundw
                        case rel => exact ⟨k + 1, by omega, by go_num, by rw [hnext.out]; exact row_end hnew.out HO3, hE2.trans hE7⟩
                        case measure => simp [intOf]; omega
      · have htk : l.take k = l := List.take_of_length_le (by omega)
        rw [htk] at HO
        obtain ⟨A', c', rfl, hrow⟩ := rowB_own (lo := w.heap.size) HO (by omega)
        clear htk HO hcell
        go_wp2
        rw [hR.out]
        exact hVR.out _ _ A' c' rfl hrow (E2.trans hE)
  · have hr := Lib.hid h1
    have h1' : (checkE t != 0) = true := by simpa [bne] using h1
    clear h1
    go_enter Tryd.func13, Tryd.ntmps13
    go_wp2_with (first
      | (go_at_call 15; refine (hchk _ (by exact e0)).mono ?_; rintro e w1 ⟨rfl, hb1⟩; obtain ⟨q0, q1, q2, q3, q4, q5, q6⟩ := box6 hb1)
      | (go_at_call 15; refine (hchk _ (by exact e0.trans hb1)).mono ?_; rintro e w2 ⟨rfl, hb2⟩))
    go_ret2
    exact VarsR.bad hr.out rfl ((e0.trans hb1).trans hb2)
end Go.Proofs.YthaocbfmdcmkkaaDoor.K
