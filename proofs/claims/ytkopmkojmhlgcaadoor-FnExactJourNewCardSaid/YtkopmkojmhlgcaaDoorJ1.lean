/- What the functions of JourNew do, at the abstract level. Conditions: none. -/
import Derived.Test.YtkopmkojmhlgcaaDoorL
namespace Go.Proofs.YtkopmkojmhlgcaaDoor
open Go Go.HL
theorem ts_l1In (n lo hi : Int) (H : HH) (Q : HV → HH → Prop) (h : Q (.bool (decide (lo ≤ n) && decide (n ≤ hi))) H) : TS P 12 [.i n, .i lo, .i hi] H Q := by
  refine fn_sound hP f12_ok (wp_go rfl ?_)
  by_cases h1 : lo ≤ n <;> by_cases h2 : n ≤ hi <;> simp only [h1, h2, decide_true, decide_false, Bool.and_true, Bool.and_false] at h <;> simp [f12, h1, h2, h]
theorem ts_within (n lo hi : Int) (H : HH) (Q : HV → HH → Prop) (h : Q (.bool (decide (lo ≤ n) && decide (n ≤ hi))) H) : TS P 27 [.i n, .i lo, .i hi] H Q := by
  refine fn_sound hP f27_ok (wp_go rfl ?_)
  by_cases h1 : lo ≤ n <;> by_cases h2 : n ≤ hi <;> simp only [h1, h2, decide_true, decide_false, Bool.and_true, Bool.and_false] at h <;> simp [f27, h1, h2, h]
theorem ts_placeOk (n : Int) (H : HH) (Q : HV → HH → Prop) (h : Q (.bool (decide (0 ≤ n) && decide (n ≤ 2))) H) : TS P 14 [.i n] H Q := by
  refine fn_sound hP f14_ok (wp_go rfl ?_)
  simp [f14]
  refine call_of (ts_within _ _ _ _ _ ?_)
  simpa using h
theorem ts_nodesOk (n : Int) (H : HH) (Q : HV → HH → Prop) (h : Q (.bool (decide (1 ≤ n) && decide (n ≤ 4))) H) : TS P 15 [.i n] H Q := by
  refine fn_sound hP f15_ok (wp_go rfl ?_)
  simp [f15]
  refine call_of (ts_within _ _ _ _ _ ?_)
  simpa using h
/-- a figure, as text -/
def fig (n : Nat) : HV := .str [UInt8.ofNat (48 + n)]
theorem ts_small (n : Nat) (hn : n < 5) (H : HH) (Q : HV → HH → Prop) (h : Q (fig n) H) : TS P 60 [.i n] H Q := by
  refine fn_sound hP f60_ok (wp_go rfl ?_)
  match n, hn, h with
  | 0, _, h => simp [f60, PO.ev, oInt, sliceV]; exact h
  | 1, _, h => simp [f60, PO.ev, oInt, sliceV]; exact h
  | 2, _, h => simp [f60, PO.ev, oInt, sliceV]; exact h
  | 3, _, h => simp [f60, PO.ev, oInt, sliceV]; exact h
  | 4, _, h => simp [f60, PO.ev, oInt, sliceV]; exact h
end Go.Proofs.YtkopmkojmhlgcaaDoor
