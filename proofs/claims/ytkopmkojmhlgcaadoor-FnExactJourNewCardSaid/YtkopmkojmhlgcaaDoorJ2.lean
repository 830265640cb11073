/- JourNew at the abstract level. Conditions: none. -/
import Derived.Test.YtkopmkojmhlgcaaDoorJ1
namespace Go.Proofs.YtkopmkojmhlgcaaDoor
open Go Go.HL
theorem ts_formatInt (n : Nat) (hn : n < 5) (H : HH) (Q : HV → HH → Prop) (h : Q (fig n) H) : TS P 45 [.i n, .i 10] H Q := by
  refine fn_sound hP f45_ok (wp_go rfl ?_)
  have h1 : ((n : Int) < 100) := by omega
  have h2 : (0 : Int) ≤ n := by omega
  simp [f45, h1, h2]
  refine call_of (ts_small n hn _ _ ?_)
  simpa using h
theorem ts_itoa' (n : Nat) (hn : n < 5) (H : HH) (Q : HV → HH → Prop) (h : Q (fig n) H) : TS P 28 [.i n] H Q := by
  refine fn_sound hP f28_ok (wp_go rfl ?_)
  simp [f28]
  refine call_of (ts_formatInt n hn _ _ ?_)
  simpa using h
theorem ts_itoa (n : Nat) (hn : n < 5) (H : HH) (Q : HV → HH → Prop) (h : Q (fig n) H) : TS P 16 [.i n] H Q := by
  refine fn_sound hP f16_ok (wp_go rfl ?_)
  simp [f16]
  refine call_of (ts_itoa' n hn _ _ ?_)
  simpa using h
theorem ts_l1Dec (n : Nat) (hn : n < 5) (H : HH) (Q : HV → HH → Prop) (h : ∀ H', Q (fig n) H') : TS P 13 [.i n] H Q := by
  refine fn_sound hP f13_ok (wp_go rfl ?_)
  match n, hn, h with
  | 0, _, h => simp [f13, NO.ev, mkElems, HH.elems, bytesOf]; exact h _
  | 1, _, h => simp [f13, NO.ev, mkElems, HH.elems, bytesOf]; exact h _
  | 2, _, h => simp [f13, NO.ev, mkElems, HH.elems, bytesOf]; exact h _
  | 3, _, h => simp [f13, NO.ev, mkElems, HH.elems, bytesOf]; exact h _
  | 4, _, h => simp [f13, NO.ev, mkElems, HH.elems, bytesOf]; exact h _
end Go.Proofs.YtkopmkojmhlgcaaDoor
