/- From the abstract level to a row: what was there when the call began stays as it was. Conditions: none. -/
import Derived.Test.YtkopmkojmhlgcaaDoorH22
import Derived.ProofKit
namespace Go.HL
open Go.ChangeShapes Go.WideShapes
variable {P : Program}

/-- all blocks that were there stay -/
structure Kept (w w' : World) : Prop where
  os : w'.os = w.os
  output : w'.output = w.output
  size : w.heap.size ≤ w'.heap.size
  keep : ∀ b, b < w.heap.size → w'.heap[b]? = w.heap[b]?

theorem Kept.but {w w' : World} (h : Kept w w') (may : MemPlace → Prop) : w.keptBut w' may := by
  refine ⟨h.os, h.output, fun i hi => ?_⟩
  rw [h.keep i hi]
  cases w.heap[i]? with
  | none => simp
  | some o =>
    cases o <;> simp

theorem Kept.frozen {w w' : World} (h : Kept w w') {a : Addr} (ha : a.block < w.heap.size) : w'.frozen? a = w.frozen? a := by
  unfold World.frozen?
  rw [h.keep _ ha]

theorem post_of_kept {H : Type} {enc : TypeId × Value → H} {f : Func} {s : ChangeSpec} {apart fresh handsOn again : Bool} {W W' : World} {args : Array Value} {v : Value} {ds gs : List (DataW H)} {before pa pv : List MemPlace}
    (hW : DataW.Whole enc P f.params.toList s.vars apart W args.toList ds gs before) (hkept : Kept W W')
    (hres : ∀ (b : Nat) (sp : Nat → Bool) (hd : Bool), DataW.TrodAll enc P W' b sp hd f.resultTypes.toList (v.resultList f.resultTypes.size) (s.fn H (ds ++ gs)).results [])
    (hargs : ∀ sp : Nat → Bool, (∀ p ∈ before, sp p.block = true) → DataW.TrodAll enc P W' 0 sp true f.params.toList args.toList (s.fn H (ds ++ gs)).args pa)
    (hvars : ∀ sp : Nat → Bool, (∀ p ∈ before, sp p.block = true) → DataW.TrodVars enc P W' sp s.vars (s.fn H (ds ++ gs)).vars pv)
    (hps : before = pa ++ pv)
    (hok : ∀ (j : Nat) (t : TypeId) (r : Value), f.resultTypes[j]? = some t → (v.resultList f.resultTypes.size)[j]? = some r → Value.okWide P W' .any 0 t r) :
    s.post enc P f apart fresh handsOn again W args v W' := by
  have hold : ∀ p ∈ before, (fun b => decide (b < W.heap.size)) p.block = true := fun p hp => by simpa using hW.lt p hp
  refine ⟨ds, gs, before, [], pa, pv, hW, hres _ _ _, hargs _ hold, hvars _ hold, World.keptBut_mono (fun p hp => ⟨hp, ?_⟩) (hkept.but (· ∈ before)), fun _ => ?_⟩
  · rw [hps, List.mem_append] at hp
    exact Or.inr hp
  · have hlt := hW.lt
    obtain ⟨_, _, _, _, _, hz, hn⟩ := hW
    refine ⟨hok, _, _, ([] ++ pa) ++ pv, ⟨[] ++ pa, pv, trodAll_append (hargs _ (fun _ _ => rfl)) (hres _ _ _), hvars _ (fun _ _ => rfl), rfl, ?_, ?_⟩, ?_⟩
    · intro b off hp
      have hb : MemPlace.cell b off ∈ before := by rw [hps]; simpa using hp
      rw [hkept.frozen (hlt _ hb)]
      exact hz b off hb
    · intro ha
      have := hn ha
      rw [hps] at this
      simpa using this
    · intro p hp _
      rw [hps]
      simpa using hp

/-- the heap of a start that knows no object -/
def hNone : HH := { next := 0, get := fun _ => none }
theorem sim_none (w : World) : Sim (fun _ => none) w hNone := ⟨fun _ _ _ _ h => (by cases h), fun _ _ h => (by cases h), fun _ _ _ h => (by cases h), fun _ _ => rfl⟩

/-- a law over ints that answers true -/
theorem law_ints {k : FuncId} {ns : List Int} (h : TS P k (ns.map .i) hNone fun r _ => r = .bool true) (w : World) :
    Calls P k ⟨ns.map fun n => .int .i64 n⟩ w fun e w' => e = .returned (.bool true) ∧ Kept w w' := by
  have hv : ∀ ns : List Int, VRs (fun _ => none) (ns.map .i) (ns.map fun n => Value.int .i64 n) := by
    intro ns
    induction ns with
    | nil => exact .nil
    | cons n ns ih => exact .cons _ _ _ _ (.int _ _) ih
  refine (h _ w _ (sim_none w) (hv ns)).mono ?_
  rintro e w' ⟨r, H', φ', v, rfl, rfl, hr, hs, hf⟩
  cases hr
  refine ⟨rfl, hf.os, hf.output, hf.size, fun b hb => hf.keep b hb ?_⟩
  rintro ⟨i, p, hi, _⟩
  cases hi
end Go.HL
