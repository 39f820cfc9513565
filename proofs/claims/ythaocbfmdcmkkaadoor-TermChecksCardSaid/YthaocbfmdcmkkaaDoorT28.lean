/- Walks: Vars. -/
import Derived.Test.YthaocbfmdcmkkaaDoorP2
import Derived.Test.YthaocbfmdcmkkaaDoorT11
import Derived.Test.YthaocbfmdcmkkaaDoorT19
import Derived.Test.YthaocbfmdcmkkaaDoorY1
import Derived.Maps.RangeWalk
import Derived.Sort.OwnSorted
import Derived.Sort.EncStr
import Derived.Sort.KeysCollected
import Derived.Shelf.SlSortCmp.NoneTotal
set_option linter.unusedVariables false
set_option linter.unusedSimpArgs false
namespace Go.Proofs.YthaocbfmdcmkkaaDoor.K
open Go.RowKit Go.Sort Go.Shelf Go.Lib

/-! ### Bindings in memory -/
structure Bd where
  name : ByteArray
  width : Int
  bits : Int
abbrev Bd.cells (x : Bd) : List Value := [.string x.name, .int .i64 x.width, .int .u64 x.bits]
structure BdAt (W : World) (lo b o : Nat) (x : Bd) : Prop where
  c0 : W.cell? ⟨b, o, none⟩ = some (.string x.name)
  c1 : W.cell? ⟨b, o + 1, none⟩ = some (.int .i64 x.width)
  c2 : W.cell? ⟨b, o + 2, none⟩ = some (.int .u64 x.bits)
  hlo : lo ≤ b
  fz : lo = 0 ∨ ∀ j, W.frozen? ⟨b, j, none⟩ = false
def RowB (W : World) (lo : Nat) (A : Option Addr) (l : List Bd) : Prop := ∀ k (hk : k < l.length), ∃ b o, A = some ⟨b, o, none⟩ ∧ BdAt W lo b (o + k * 3) l[k]
theorem BdAt.mono {w w' : World} {lo b o : Nat} {x : Bd} (h : BdAt w lo b o x) (hb : Ext w w') : BdAt w' lo b o x :=
  ⟨hb.cell h.c0, hb.cell h.c1, hb.cell h.c2, h.hlo, h.fz.imp id fun hf j => (Below.frozen (p := ⟨b, j, none⟩) hb.b (show b < w.heap.size from World.block_lt_of_cell? w _ h.c0)).trans (hf j)⟩
theorem RowB.mono {w w' : World} {lo : Nat} {A : Option Addr} {l : List Bd} (h : RowB w lo A l) (hb : Ext w w') : RowB w' lo A l := fun k hk => by
  obtain ⟨b, o, e, h⟩ := h k hk; exact ⟨b, o, e, h.mono hb⟩
theorem RowB.lower {w : World} {lo lo' : Nat} {A : Option Addr} {l : List Bd} (h : RowB w lo A l) (hl : lo' ≤ lo) : RowB w lo' A l := fun k hk => by
  obtain ⟨b, o, e, h⟩ := h k hk; exact ⟨b, o, e, h.c0, h.c1, h.c2, Nat.le_trans hl h.hlo, h.fz.imp (fun e => by omega) id⟩
theorem RowB.nil (w : World) (lo : Nat) (A : Option Addr) : RowB w lo A [] := fun k hk => absurd hk (by simp)
theorem RowB.agree {W W' : World} {lo : Nat} {A : Option Addr} {l : List Bd} (h : RowB W lo A l) (hW : ∀ b, lo ≤ b → b < W.heap.size → W'.heap[b]? = W.heap[b]?) : RowB W' lo A l := fun k hk => by
  obtain ⟨b, o, e, h⟩ := h k hk
  have hb := hW b h.hlo (World.block_lt_of_cell? W _ h.c0)
  have hc : ∀ j v, W.cell? ⟨b, j, none⟩ = some v → W'.cell? ⟨b, j, none⟩ = some v := fun j v h => (World.cell?_of_block (w := W) (a := ⟨b, j, none⟩) hb).trans h
  exact ⟨b, o, e, hc _ _ h.c0, hc _ _ h.c1, hc _ _ h.c2, h.hlo, h.fz.imp id fun hf j => (World.frozen?_of_block (w := W) (a := ⟨b, j, none⟩) hb).trans (hf j)⟩
/-- The variables with their widths, as bindings. -/
def toBd (l : VL) : List Bd := l.map fun v => ⟨v.1, v.2, 0⟩
def varsB (t : Tm) : List Bd := if checkE t = 0 then toBd (vs t.vars) else []
def VarsR (t : Tm) (w : World) (e : Ending) (w' : World) : Prop := ∃ A c, e = .returned (.tuple #[.slice A (varsB t).length c, .int .i64 (checkE t)]) ∧ RowB w' w.heap.size A (varsB t) ∧ Ext w w'
theorem VarsR.bad {t : Tm} {w w' : World} {e : Ending} (h : checkE t ≠ 0) (he : e = .returned (.tuple #[.slice none 0 0, .int .i64 (checkE t)])) (hb : Ext w w') : VarsR t w e w' := by
  have hv : varsB t = [] := by unfold varsB; rw [if_neg h]
  exact ⟨none, 0, by rw [he, hv]; rfl, by rw [hv]; exact RowB.nil _ _ _, hb⟩

theorem nodup_len : ∀ {a b : List ByteArray}, a.Nodup → (∀ x ∈ a, x ∈ b) → a.length ≤ b.length
  | [], b, _, _ => by simp
  | x :: a, b, hn, hs => by
    have hx := hs x (by simp)
    have ih := nodup_len (a := a) (b := b.filter fun y => decide (y ≠ x)) (List.nodup_cons.1 hn).2 fun y hy => by
      rw [List.mem_filter]
      exact ⟨hs y (by simp [hy]), by simp only [decide_eq_true_eq]; intro e; subst e; exact (List.nodup_cons.1 hn).1 hy⟩
    have : (b.filter fun y => decide (y ≠ x)).length < b.length := List.length_filter_lt_length_iff_exists.2 ⟨x, hx, by simp⟩
    simp; omega
theorem GotI.len {l got : VL} {left : Lit → Bool} (h : GotI l left got) : got.length ≤ l.length := by
  have := nodup_len (b := l.map (·.1)) h.nd fun x hx => by
    obtain ⟨⟨n, y⟩, hm, rfl⟩ := List.mem_map.1 hx
    exact List.mem_map.2 ⟨(n, y), ((h.mem n y).1 hm).1, rfl⟩
  simpa using this

/-! ### The sort -/
abbrev encV (x : ByteArray × Int) : List Value := [.string x.1, .int .i64 x.2, .int .u64 0]
set_option maxHeartbeats 1000000 in
theorem cmpV_calls (x y : ByteArray × Int) (W : World) : Calls Tryd.prog 36 #[.agg #[.string x.1, .int .i64 x.2, .int .u64 0], .agg #[.string y.1, .int .i64 y.2, .int .u64 0]] W fun e w' =>
    e = .returned (.int .i64 (Lib.compareBytes x.1.data.toList y.1.data.toList)) ∧ ∃ q os', w' = grow (W.drewN q) os' := by
  have hcon := fun W' => Any.strings_Compare compareS x.1 y.1 W'
  change ∀ W', Calls Tryd.prog 37 _ _ _ at hcon
  generalize Lib.compareBytes x.1.data.toList y.1.data.toList = r at hcon ⊢
  go_enter Tryd.func36, Tryd.ntmps36
  go_wp2_with (go_at_call 37; refine (hcon _).mono ?_; rintro e w' ⟨rfl, rfl⟩)
  go_ret
  exact ⟨rfl, 0, _, by rw [alloc_eq_grow, alloc_eq_grow, grow_grow]; rfl⟩
theorem ltV (x y : ByteArray × Int) : ltOf (fun x y : ByteArray × Int => Lib.compareBytes x.1.data.toList y.1.data.toList) x y = ltB x.1 y.1 := by
  unfold ltOf; exact cmp_ltB _ _
theorem swoV : SWO (ltOf fun x y : ByteArray × Int => Lib.compareBytes x.1.data.toList y.1.data.toList) where
  irrefl x := by rw [ltV]; exact ltB_irrefl _
  trans x y z h1 h2 := by rw [ltV] at *; exact ltB_trans h1 h2
  ntrans x y z h1 h2 := by
    rw [ltV] at *
    cases h : ltB x.1 z.1 with
    | false => rfl
    | true =>
      cases h3 : ltB y.1 x.1 with
      | true => rw [ltB_trans h3 h] at h2; cases h2
      | false => rw [ltB_total h1 h3] at h; rw [h] at h2; cases h2
theorem cmpLaysV (blk off size : Nat) (w : World) : CmpLays Tryd.prog 36 #[] encV 3 (fun x y => Lib.compareBytes x.1.data.toList y.1.data.toList) blk off size w :=
  fun _ _ _ _ x y => cmpV_calls x y _
theorem holdsV {w : World} {g : Nat} {cur : Array Value} {e : TypeId} {got : VL} (hb : w.heap[g]? = some (.cells cur e (0, 0))) (h4 : cur.toList.take (got.length * 3) = bcells got) : HoldsK encV 3 w g 0 got.toArray := by
  intro j hj
  rw [size_flatK] at hj
  have hj' : j < got.length * 3 := by simpa using hj
  refine ⟨?_, heap_frozen hb _⟩
  rw [heap_cell hb, Nat.zero_add]
  have h1 : (cur.toList.take (got.length * 3))[j]? = (bcells got)[j]? := by rw [h4]
  rw [List.getElem?_take_of_lt hj', Array.getElem?_toList] at h1
  rw [h1, get_flatK _ _ _ _ (by simpa using hj')]
  have hq : j / 3 < got.length := by omega
  have hget : got.toArray[j / 3]! = got[j / 3] := by simp [hq]
  rw [hget]
  have hbc : ∀ i (hi : i < got.length) r, r < 3 → (bcells got)[i * 3 + r]? = (encV got[i])[r]? := by
    intro i hi r hr
    clear h1 h4 hj hj' hq hget hb
    induction got generalizing i with
    | nil => simp at hi
    | cons x got ih =>
      have e : bcells (x :: got) = encV x ++ bcells got := rfl
      cases i with
      | zero => simp only [e, Nat.zero_mul, Nat.zero_add, List.getElem_cons_zero]; rw [List.getElem?_append_left (by simpa using hr)]
      | succ i =>
        rw [e, List.getElem?_append_right (by simp; omega), List.getElem_cons_succ, ← ih i (by simpa using hi)]
        congr 1; simp; omega
  have := hbc (j / 3) hq (j % 3) (by omega)
  rw [show j / 3 * 3 + j % 3 = j by omega] at this
  rw [this]
  show _ = some (id _)
  have h3 : j % 3 < (encV got[j / 3]).length := by simp; omega
  rw [List.getElem?_eq_getElem h3]
  simp only [id, List.getElem!_eq_getElem?_getD, List.getElem?_eq_getElem h3, Option.getD_some]
theorem ext_sorted {w0 w : World} {g n : Nat} {os : Array Obj} (d : Array (ByteArray × Int)) (h : Ext w0 w) (hg : w0.heap.size ≤ g) : Ext w0 (sortWorldK encV 3 w g 0 n d os) := by
  refine h.grown (row := some g) ⟨rfl, rfl, rfl, by simp [sortWorldK, grow, putRowK, putRow, mapBlock, Sort.ahead], fun k hk hne => ?_⟩ (fun j e => by cases e; exact hg)
  have hne' : g ≠ k := fun e => hne (by rw [e])
  unfold sortWorldK
  rw [heap_grow_old _ _ (by simpa [putRowK, putRow, mapBlock, Sort.ahead] using hk)]
  simp [putRowK, putRow, mapBlock, Sort.ahead, Array.getElem?_modify, hne']
theorem rowB_sorted {w : World} {g n lo : Nat} {os : Array Obj} {got s : VL} (hH : HoldsK encV 3 w g 0 got.toArray) (hg : g < w.heap.size) (hlo : lo ≤ g) (hl : s.length = got.length)
    (hf : ∀ j, (sortWorldK encV 3 w g 0 n s.toArray os).frozen? ⟨g, j, none⟩ = false) : RowB (sortWorldK encV 3 w g 0 n s.toArray os) lo (some ⟨g, 0, none⟩) (toBd s) := by
  have hK : HoldsK encV 3 (sortWorldK encV 3 w g 0 n s.toArray os) g 0 s.toArray :=
    holdsK_grow encV 3 _ os g 0 _ (by simpa [putRowK, putRow, mapBlock, Sort.ahead] using hg) (holdsK_putRowK encV 3 (Sort.ahead w n) g 0 got.toArray s.toArray (holdsK_ahead encV 3 w n g 0 _ hH) (by simp [hl]))
  intro k hk
  have hk' : k < s.length := by simpa [toBd] using hk
  have hget : s.toArray[k]! = s[k] := by simp [hk']
  have hc : ∀ c, c < 3 → (sortWorldK encV 3 w g 0 n s.toArray os).cell? ⟨g, 0 + k * 3 + c, none⟩ = some (encV s[k])[c]! := fun c hc => by
    have := (hK.cell (i := k) (c := c) (by simpa using hk') hc).1
    rwa [hget] at this
  have hx : (toBd s)[k] = ⟨s[k].1, s[k].2, 0⟩ := by simp [toBd]
  rw [hx]
  exact ⟨g, 0, rfl, hc 0 (by omega), hc 1 (by omega), hc 2 (by omega), hlo, .inr hf⟩
theorem frozen_sorted {w : World} {g n : Nat} {os : Array Obj} {cur : Array Value} {e : TypeId} (d : Array (ByteArray × Int)) (hb : w.heap[g]? = some (.cells cur e (0, 0))) (j : Nat) : (sortWorldK encV 3 w g 0 n d os).frozen? ⟨g, j, none⟩ = false := by
  have hg := heap_lt hb
  have : ∃ c, (sortWorldK encV 3 w g 0 n d os).heap[g]? = some (.cells c e (0, 0)) := by
    unfold sortWorldK
    rw [heap_grow_old _ _ (by simpa [putRowK, putRow, mapBlock, Sort.ahead] using hg)]
    simp [putRowK, putRow, mapBlock, Sort.ahead, Array.getElem?_modify, hb, onCells]
  obtain ⟨c, hc⟩ := this
  exact heap_frozen hc j

theorem perm_all {d d' : Array (ByteArray × Int)} (h : PermIn 0 d.size d d') : d'.toList.Perm d.toList := by
  have h3 := h.2.2
  have e1 : d'.extract 0 d.size = d' := by rw [← h.1]; simp
  have e2 : d.extract 0 d.size = d := by simp
  rwa [e1, e2] at h3
theorem sorted_all {d d' : Array (ByteArray × Int)} (hs : d'.size = d.size) (h : SortedIn (ltOf fun x y : ByteArray × Int => Lib.compareBytes x.1.data.toList y.1.data.toList) 0 d.size d') : d'.toList.Pairwise fun a b => ltB b.1 a.1 = false := by
  rw [List.pairwise_iff_getElem]
  intro i j hi hj hij
  have hi' : i < d'.size := by simpa using hi
  have hj' : j < d'.size := by simpa using hj
  have := h i j (Nat.zero_le _) hij (by omega)
  rw [ltV] at this
  simpa [hi', hj'] using this
/-! ### The walk -/
set_option maxHeartbeats 4000000 in
set_option maxRecDepth 100000 in
theorem vars_calls (t : Tm) (A : Option Addr) (c : Nat) (w : World) (hM : t.size ≤ 1000000) (hs : Subs w 0 A t.sub) (hok : OkT t) (hG : Shapes w) :
    Calls Tryd.prog 12 #[tv t A c] w (VarsR t w) := by
  have e0 : Ext w (w.alloc (.cells (cells6 t A c) 25)) := (Ext.refl w).alloc _
  have hchk := fun W (h : Ext w W) => check_calls t A c W hM (hs.mono h) hok (hG.mono h)
  by_cases h1 : checkE t = 0
  · obtain ⟨ht1, ht2, ht3, ht4⟩ := checkE_ok h1
    have hvb : Hid (varsB t = toBd (vs t.vars)) := by show _ = _; unfold varsB; rw [if_pos h1]
    have hch := Lib.hid h1
    rw [h1] at hchk
    have hvar := fun W (h : Ext w W) => variables_good t A c W hM (hs.mono h) hok ht4
    have hvl := vars_len t
    obtain ⟨l, hl⟩ : ∃ l, l = t.vars := ⟨_, rfl⟩
    have hVR : ∀ (e : Ending) (w' : World) (A' : Option Addr) (c' : Nat), e = .returned (.tuple #[.slice A' (vs l).length c', .int .i64 0]) → RowB w' w.heap.size A' (toBd (vs l)) → Ext w w' → VarsR t w e w' := by
      intro e w' A' c' he hr hb
      refine ⟨A', c', ?_, by rw [hvb.out, ← hl]; exact hr, hb⟩
      rw [he, hvb.out, hch.out, ← hl]; simp [toBd]
    rw [← hl] at hvar ht4 hvl
    replace hVR := Lib.hid hVR
    obtain ⟨R, hR⟩ : ∃ R, R = VarsR t w := ⟨_, rfl⟩
    rw [← hR]
    replace hR := Lib.hid hR
    have hll : l.length ≤ 400 := by omega
    clear hl h1 ht2 ht3 hvb hch
    go_enter Tryd.func12, Tryd.ntmps12
    go_wp2_with (first
      | (go_at_call 14; refine (hchk _ (by exact e0)).mono ?_; rintro e w1 ⟨rfl, hb1⟩; obtain ⟨q0, q1, q2, q3, q4, q5, q6⟩ := box6 hb1)
      | (go_at_call 30; refine (hvar _ (by exact e0.trans hb1)).mono ?_; rintro e w2 ⟨bm, nm, rfl, hown, hbm, hnm, hb2⟩)
      | (at_range; refine wpList_range_own _ rfl _ 52 rfl 9 3 (Maps.string_keyed Tryd.underlying9) Tryd.underlying52 _ bm nm _ rfl hown ?_; intro w3 hrg0 hg0 hs0))
    go_frame
    have E2 : Ext w w2 := (e0.trans hb1).trans hb2
    have hbl := hown.lt
    have hz2 := E2.sz
    clear q0 q1 q2 q3 q4 q5 q6 hchk hvar
    go_loopw [7] (fun v wr => ∃ (left : Lit → Bool) (cnt : Nat) (got : VL), wr.ranges Tryd.prog 9 (plainElem (H := Unit) Tryd.prog 3) bm w2.heap.size nm (mapD l) left cnt ∧ Hid (GotI l left got) ∧
        wr.ownsRow (w2.heap.size + 1) 59 3 v got.length (bcells got) ∧ Ext w wr ∧ w2.heap.size + 1 ≤ wr.heap.size)
      (fun _ wr => wr.rangeLeft bm w2.heap.size)
    case atStart => exact ⟨_, _, [], hrg0, Lib.hid (GotI.start l), World.ownsRow_nil _ _ _ _, E2.trans (Ext.of_grown hg0), by omega⟩
    case round =>
      obtain ⟨left, cnt, got, hrg, hG, hrow, hE, hwz⟩ := hrel
      have hgl := hG.out.len
      clear hs0 hrg0 hg0
      go_wp2_with (at_next; refine wpList_next_ranges _ rfl _ rfl 9 (Maps.string_keyed Tryd.underlying9) (plainElem (H := Unit) Tryd.prog 3) encStr (Value.int .i64) (fun key kl hk => by obtain ⟨x, hx, _⟩ := Maps.keyOf_str Tryd.underlying9 hk; exact ⟨x, hx⟩) (fun v y hv => by obtain ⟨c, rfl, _⟩ := plainElem_int_inv Tryd.underlying3 hv; exact ⟨c, rfl⟩) bm w2.heap.size nm _ _ _ rfl hrg ?_ ?_)
      · intro hc0 hl0
        have hmem := hG.out.done hl0
        have hnd := hG.out.nd
        rcases hrow.2 with ⟨rfl, hn0⟩ | ⟨g, cap, cur, rfl, hbase, hb, h1, h2, h3, h4⟩
        · have hg0 : got = [] := List.eq_nil_of_length_eq_zero hn0
          subst hg0
          have hvs : Hid (vs l = []) := (sorted_vs ht4 hnd hmem (List.Perm.refl _) List.Pairwise.nil).symm
          have hcon := AnyF.slices_SortFunc_none sortB none 0 (.func (.func 36) #[] #[]) wr
          change Calls Tryd.prog 35 _ _ _ at hcon
          replace hcon := Lib.hid hcon
          clear hmem hnd
          go_wp2_with (go_at_call 35; refine hcon.out.mono ?_; rintro e w4 ⟨rfl, rfl⟩)
          rw [hR.out]
          exact hVR.out _ _ none 0 (by rw [hvs.out]; rfl) (by rw [hvs.out]; exact RowB.nil _ _ _) hE
        · have hgs : g < wr.heap.size := heap_lt hb
          have hH : HoldsK encV 3 wr g 0 got.toArray := holdsV hb h4
          have hcon := AnyQ.slices_SortFunc sortB 3 Tryd.isAgg59 Tryd.sizeOf59 encV (fun _ => rfl) (fun x v hv => by simp at hv; rcases hv with rfl | rfl | rfl <;> rfl) (fun x y => Lib.compareBytes x.1.data.toList y.1.data.toList) swoV 36 #[] g 0 cap got.toArray wr
            (enters_of Tryd.func36 (by kernel_rfl) rfl) (cmpLaysV _ _ _ _) hH hgs (by simp; omega)
          change Calls Tryd.prog 35 _ _ _ at hcon
          simp only [List.size_toArray] at hcon
          replace hcon := Lib.hid hcon
          have Hm := Lib.hid hmem
          have Hn := Lib.hid hnd
          clear hmem hnd hrow h1 h2 h3 h4
          go_wp2_with (go_at_call 35; refine hcon.out.mono ?_; rintro e w4 ⟨rfl, d', nn, os, hp, hsd, rfl⟩)
          have hds : d'.size = got.toArray.size := hp.1
          have hperm := perm_all (d := got.toArray) (d' := d') (by simpa using hp)
          have hvs : d'.toList = vs l := sorted_vs ht4 Hn.out Hm.out (by simpa using hperm) (sorted_all hds (by simpa using hsd))
          have hlen : (vs l).length = got.length := by rw [← hvs]; simpa using hds
          have hd : d' = (vs l).toArray := by rw [← hvs]
          subst hd
          rw [hR.out]
          exact hVR.out _ _ (some ⟨g, 0, none⟩) cap (by rw [hlen]; rfl) (rowB_sorted hH hgs (by omega) hlen (frozen_sorted _ hb)) (ext_sorted _ hE (by omega))
      · intro x c kl yd yp w4 cnt2 hkey hlk hv hat hrg2 hlt hg2 hs2 hen
        obtain ⟨x', ex, rfl, _⟩ := Maps.keyOf_str Tryd.underlying9 hkey
        obtain rfl : x = x' := encStr_inj ex
        obtain ⟨c', ec, hyd, _⟩ := plainElem_int_inv Tryd.underlying3 hv
        cases ec
        have hrow2 := hrow.kept hg2 (Or.inr (row_ne_iter hrow hrg).symm)
        have hz4 := hg2.size
        have hkn : nkey ⟨x.toArray⟩ = .string x := by simp [nkey]
        have hG2 := Lib.hid (hG.out.step ht4 (n := ⟨x.toArray⟩) (c := c) (by rw [hkn]; exact hlk) (fun zd => by rw [hkn, hat zd, (Prod.mk.inj hyd).1]))
        rw [hkn] at hG2
        clear hs2 hyd hkn
        go_wp2_with (at_builtin; refine wp_append_box (W := w4) (w2.heap.size + 1) rfl _ _ 35 59 3 32 rfl Tryd.underlying35 infoB rfl (by omega) _ _ _ hrow2 rfl [.string ⟨x.toArray⟩, .int .i64 c, .int .u64 0] rfl (by rfl) (bcells_one [(⟨x.toArray⟩, c)]) (by simp only [maxLen]; omega) (by omega) (by omega) ?_; intro v1 w5 HO1 hg5)
        have hrg3 := hrg2.kept hg5 (row_ne_low hrow2 (by omega)) (row_ne_low hrow2 (by omega))
        have hE5 : Ext w w5 := (hE.grown hg2 (fun j hj => by cases hj; omega)).grown hg5 (fun j hj => by have := (hrow2.lt j hj).1; omega)
        have hz5 := hg5.size
        refine ⟨⟨_, cnt2, got ++ [(⟨x.toArray⟩, c)], hrg3, hG2, by rw [bcells_append, List.length_append]; exact HO1, hE5, by omega⟩, ?_⟩
        rw [hrg3.left_eq, hrg.left_eq]; exact hlt
  · have hr := Lib.hid h1
    have h1' : (checkE t != 0) = true := by simpa [bne] using h1
    clear h1
    go_enter Tryd.func12, Tryd.ntmps12
    go_wp2_with (go_at_call 14; refine (hchk _ (by exact e0)).mono ?_; rintro e w1 ⟨rfl, hb1⟩)
    go_ret2
    exact VarsR.bad hr.out rfl (e0.trans hb1)
end Go.Proofs.YthaocbfmdcmkkaaDoor.K
