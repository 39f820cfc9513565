/- Walks, the reference: SameBound, of rows that hold the same. -/
import Derived.Test.YthaocbfmdcmkkaaDoorT28
import Derived.Laws.StructEq
set_option linter.unusedVariables false
set_option linter.unusedSimpArgs false
namespace Go.Proofs.YthaocbfmdcmkkaaDoor.K
open Go.RowKit

theorem bdRow {W : World} {lo : Nat} {A : Option Addr} {l : List Bd} (h : RowB W lo A l) (k : Nat) (hk : k < l.length) :
    ∃ b o, A = some ⟨b, o, none⟩ ∧ W.cell? ⟨b, o + k * 3, none⟩ = some (.string l[k].name) ∧ W.cell? ⟨b, o + k * 3 + 1, none⟩ = some (.int .i64 l[k].width) ∧ W.cell? ⟨b, o + k * 3 + 2, none⟩ = some (.int .u64 l[k].bits) := by
  obtain ⟨b, o, e, hx⟩ := h k hk; exact ⟨b, o, e, hx.c0, hx.c1, hx.c2⟩
set_option maxHeartbeats 4000000 in
set_option maxRecDepth 100000 in
theorem rsameB_calls (l : List Bd) (A A' : Option Addr) (c c' lo lo' : Nat) (w : World) (hl : l.length ≤ 1000000) (hA : RowB w lo A l) (hA' : RowB w lo' A' l) :
    Calls Tryd.prog 23 #[.slice A l.length c, .slice A' l.length c'] w fun e w' => e = .returned (.bool true) ∧ Ext w w' := by
  have hp : Tryd.prog.stoodInHeld 59 = false := by kernel_rfl
  have hm : Tryd.prog.eqGuardType Tryd.prog.depth 59 = false := by kernel_rfl
  go_enter Tryd.func23, Tryd.ntmps23
  go_wp2
  go_loopw [5] (fun i wr => ∃ (k : Nat), k ≤ l.length ∧ i = .int .i64 k ∧ Ext w wr) (fun i _ => l.length - (intOf i).toNat)
  case atStart => exact ⟨0, by omega, rfl, Ext.refl _⟩
  case round =>
    obtain ⟨k, hk, rfl, hE⟩ := hrel
    by_cases hlt : k < l.length
    · obtain ⟨b, o, rfl, a0, a1, a2⟩ := bdRow (hA.mono hE) k hlt
      obtain ⟨b', o', rfl, b0, b1, b2⟩ := bdRow (hA'.mono hE) k hlt
      go_wp2_with fail
      go_quiet (fail)
      all_goals
        go_wp2
        go_roundw
        case rel => exact ⟨k + 1, by omega, by go_num, hE.drewN _⟩
        case measure => simp [intOf]; omega
    · go_wp2
      go_ret
      exact ⟨rfl, hE⟩
end Go.Proofs.YthaocbfmdcmkkaaDoor.K
