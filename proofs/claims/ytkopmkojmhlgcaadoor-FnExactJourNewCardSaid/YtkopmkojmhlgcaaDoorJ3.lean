/- JourNew of both, and the law, at the abstract level. Conditions: none. -/
import Derived.Test.YtkopmkojmhlgcaaDoorJ2
namespace Go.Proofs.YtkopmkojmhlgcaaDoor
open Go Go.HL
def jour (me nodes : Int) : HV := if (0 ≤ me ∧ me ≤ 2) ∧ 1 ≤ nodes ∧ nodes ≤ 4 then .str ([UInt8.ofNat (48 + me.toNat)] ++ [32] ++ [UInt8.ofNat (48 + nodes.toNat)] ++ [10]) else .str []
theorem ts_specNew (me nodes : Int) (H : HH) (Q : HV → HH → Prop) (h : ∀ H', Q (jour me nodes) H') : TS P 5 [.i me, .i nodes] H Q := by
  refine fn_sound hP f5_ok (wp_go rfl ?_)
  simp [f5]
  refine call_of (ts_l1In _ _ _ _ _ ?_)
  by_cases h1 : 0 ≤ me ∧ me ≤ 2
  · simp [h1]
    refine call_of (ts_l1In _ _ _ _ _ ?_)
    by_cases h2 : 1 ≤ nodes ∧ nodes ≤ 4
    · simp [h2]
      obtain ⟨a, rfl⟩ : ∃ a : Nat, me = a := ⟨me.toNat, by omega⟩
      obtain ⟨b, rfl⟩ : ∃ b : Nat, nodes = b := ⟨nodes.toNat, by omega⟩
      refine call_of (ts_l1Dec a (by omega) _ _ fun H1 => ?_)
      simp [fig]
      refine call_of (ts_l1Dec b (by omega) _ _ fun H2 => ?_)
      simp [fig]
      have := h H2
      simpa [jour, h1, h2] using this
    · have hx : (decide (1 ≤ nodes) && decide (nodes ≤ 4)) = false := by simp; omega
      simp [hx]
      have := h H
      simpa [jour, h2] using this
  · have hx : (decide (0 ≤ me) && decide (me ≤ 2)) = false := by simp; omega
    simp [hx]
    have := h H
    simpa [jour, h1] using this
theorem ts_implNew (me nodes : Int) (H : HH) (Q : HV → HH → Prop) (h : ∀ H', Q (jour me nodes) H') : TS P 6 [.i me, .i nodes] H Q := by
  refine fn_sound hP f6_ok (wp_go rfl ?_)
  simp [f6]
  refine call_of (ts_placeOk _ _ _ ?_)
  by_cases h1 : 0 ≤ me ∧ me ≤ 2
  · simp [h1]
    refine call_of (ts_nodesOk _ _ _ ?_)
    by_cases h2 : 1 ≤ nodes ∧ nodes ≤ 4
    · simp [h2]
      obtain ⟨a, rfl⟩ : ∃ a : Nat, me = a := ⟨me.toNat, by omega⟩
      obtain ⟨b, rfl⟩ : ∃ b : Nat, nodes = b := ⟨nodes.toNat, by omega⟩
      refine call_of (ts_itoa a (by omega) _ _ ?_)
      simp [fig]
      refine call_of (ts_itoa b (by omega) _ _ ?_)
      simp [fig]
      have := h H
      simpa [jour, h1, h2] using this
    · have hx : (decide (1 ≤ nodes) && decide (nodes ≤ 4)) = false := by simp; omega
      simp [hx]
      have := h H
      simpa [jour, h2] using this
  · have hx : (decide (0 ≤ me) && decide (me ≤ 2)) = false := by simp; omega
    simp [hx]
    have := h H
    simpa [jour, h1] using this
theorem ts_law (me nodes : Int) (H : HH) (Q : HV → HH → Prop) (h : ∀ H', Q (.bool true) H') : TS P 3 [.i me, .i nodes] H Q := by
  refine fn_sound hP f3_ok (wp_go rfl ?_)
  simp [f3]
  refine call_of (ts_specNew _ _ _ _ fun H1 => ?_)
  simp
  refine call_of (ts_implNew _ _ _ _ fun H2 => ?_)
  obtain ⟨s, hs⟩ : ∃ s, jour me nodes = .str s := by unfold jour; split <;> exact ⟨_, rfl⟩
  simp [hs]
  exact h _
end Go.Proofs.YtkopmkojmhlgcaaDoor
