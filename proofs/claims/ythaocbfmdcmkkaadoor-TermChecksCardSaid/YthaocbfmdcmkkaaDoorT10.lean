/- Walks: Depth, Check, grown. -/
import Derived.Test.YthaocbfmdcmkkaaDoorT9
set_option linter.unusedVariables false
namespace Go.Proofs.YthaocbfmdcmkkaaDoor.K
open Go.RowKit Go.Shelf

set_option maxHeartbeats 1000000 in
set_option maxRecDepth 100000 in
theorem depth_calls (N : Nat) : ∀ (t : Tm) (A : Option Addr) (c : Nat) (w : World), t.size ≤ N → N ≤ 1000000 → Subs w 0 A t.sub →
    Calls Tryd.prog 20 #[tv t A c] w fun e w' => e = .returned (.int .i64 t.depth) ∧ Ext w w' := by
  induction N with
  | zero => intro t A c w h; have := t.size_pos; omega
  | succ N ih =>
  intro t A c w hd hN hs
  have hz := t.size_eq
  have hl := length_le_sizes t.sub
  go_enter Tryd.func20, Tryd.ntmps20
  go_wp2
  go_loopw [3, 9] (fun d i wr => ∃ k : Nat, k ≤ t.sub.length ∧ i = .int .i64 k ∧ d = .int .i64 (depths (t.sub.take k)) ∧ Ext w wr) (fun _ i _ => t.sub.length - (intOf i).toNat)
  case atStart => exact ⟨0, by omega, rfl, rfl, (Ext.refl _).alloc _⟩
  case round =>
    obtain ⟨k, hk, rfl, rfl, hb⟩ := hrel
    by_cases hlt : k < t.sub.length
    · obtain ⟨b, o, A', c', rfl, he⟩ := (hs.mono hb).at_ k hlt
      obtain ⟨h0, h1, h2, h3, h4, h5, hsub, _, _⟩ := he
      have hzk := sizes_get t.sub k hlt
      have hdk := Lib.hid (depths_take t.sub k hlt)
      go_wp2_with (go_at_call 20; refine (ih t.sub[k] _ _ _ (by omega) (by omega) (hsub.mono ((Ext.refl _).alloc _))).mono ?_; rintro e w2 ⟨rfl, hb2⟩)
      go_roundw
      case rel => exact ⟨k + 1, by omega, by go_num, by rw [hdk.out]; congr 1; split <;> omega, (hb.alloc _).trans hb2⟩
      case measure => simp [intOf]; omega
    · have hd1 := t.depth_eq
      have hd2 := depths_le_sizes t.sub
      rw [List.take_of_length_le (by omega)]
      go_wp2
      go_ret
      exact ⟨ret_int (by rw [hd1]; simp), hb⟩
end Go.Proofs.YthaocbfmdcmkkaaDoor.K
