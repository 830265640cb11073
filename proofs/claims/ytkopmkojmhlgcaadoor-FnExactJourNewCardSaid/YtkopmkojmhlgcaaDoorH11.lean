/- The instructions that make something new: their translation, and that the machine does what they say. Conditions: none. -/
import Derived.Test.YtkopmkojmhlgcaaDoorH10
namespace Go.HL
variable {φ : Phi} {e : Env} {H : HH} {n B : Nat} {a : Act} {w : World} {P : Program}

/-- what holds behind an instruction -/
def After (φ : Phi) (H : HH) (w : World) (n B : Nat) (K : Env → HH → Prop) (a' : Act) (w' : World) : Prop :=
  ∃ e' H' φ', K e' H' ∧ FS φ' e' H' n B a' w' ∧ Fr φ H w φ' H' w'

theorem wp_value {o : Oper} {d : Nat} {K : Env → HH → Prop} {Q : Exit → Act → World → Prop} {u : Value} {w' : World} (hd : o.dst = some d) (hr : (execOp a.eval o).run P w = .ok (.value u) w') (h : After φ H w n B K (a.put (some d) u) w') :
    o.wp P a w (After φ H w n B K) Q := by
  unfold Oper.wp
  rw [hr, Oper.upon_value, hd]
  exact h

theorem pur_wp (hs : FS φ e H n B a w) {o : Oper} {p : PO} {d : Nat} {K : Env → HH → Prop} {Q : Exit → Act → World → Prop} (hd : o.dst = some d) (hdn : d < n) (h : trPO P o.op = some p) (hk : oK (p.ev e H) fun v => K (e.set d v) H) : o.wp P a w (After φ H w n B K) Q := by
  obtain ⟨tv, h1, h2⟩ := hk
  obtain ⟨u, h3, h4⟩ := pur_sound hs h h1
  exact wp_value hd h3 ⟨_, _, _, h2, hs.put hdn h4, Fr.refl _ _ _⟩

theorem al_wp (hs : FS φ e H n B a w) {o : Oper} {t : TypeId} {cs : List HV} {d : Nat} {K : Env → HH → Prop} {Q : Exit → Act → World → Prop} (hd : o.dst = some d) (hdn : d < n) (ho : o.op = .alloc t) (hz : zeroC P t = some cs) (hk : K (e.al d cs) H) : o.wp P a w (After φ H w n B K) Q := by
  unfold zeroC at hz
  obtain ⟨z, h1, h2⟩ := bind_some hz
  obtain ⟨it, h3, h4⟩ := bind_some h1
  have hr : (execOp a.eval o).run P w = .ok (.value (.pointer (some ⟨w.heap.size, 0, none⟩))) (w.alloc (.cells z.cells t)) := by
    simp [execOp, ho, Instr.alloc, zeroValue, typeInfo, h3, h4, newVar, newRow]
  have h5 := constL_sound h2 φ
  exact wp_value hd hr ⟨_, _, _, hk, hs.al (x := z.cells.toList) hdn h5.1 h5.2, Fr.grow (by simp) rfl rfl rfl (fun b hb => heap_alloc_old _ _ _ hb)⟩

theorem box_wp (hs : FS φ e H n B a w) {o : Oper} {t : TypeId} {x : Operand} {p : O} {d m : Nat} {K : Env → HH → Prop} {Q : Exit → Act → World → Prop} (hd : o.dst = some d) (hdn : d < n) (ho : o.op = .box t x) (hx : trO x = some p) (hm : 0 < m)
    (hk : oK (e.v p) fun v => v.cells.length = m ∧ K (e.al d v.cells) H) : o.wp P a w (After φ H w n B K) Q := by
  obtain ⟨v, h1, h2, h3⟩ := hk
  have hv := trO_v hx hs h1
  obtain ⟨h4, h5⟩ := hv.cells (.inl (by intro h; rw [h] at h2; simp at h2; omega))
  have hr : (execOp a.eval o).run P w = .ok (.value (.pointer (some ⟨w.heap.size, 0, none⟩))) (w.alloc (.cells (a.eval x).cells t)) := by
    simp [execOp, ho, Instr.box, newVar, newRow]
  exact wp_value hd hr ⟨_, _, _, h3, hs.al (x := (a.eval x).cells.toList) hdn h4 h5, Fr.grow (by simp) rfl rfl rfl (fun b hb => heap_alloc_old _ _ _ hb)⟩

/-! ### new objects -/
theorem var_wp (hs : FS φ e H n B a w) {o : Oper} {t : TypeId} {cs : List HV} {d m : Nat} {K : Env → HH → Prop} {Q : Exit → Act → World → Prop} (hd : o.dst = some d) (hdn : d < n) (ho : o.op = .alloc t) (hz : zeroC P t = some cs) (hm : 0 < m) (hl : cs.length = m)
    (hk : K (e.set d (.val (.ptr H.next 0 0))) (H.new (.arr false m [cs]))) : o.wp P a w (After φ H w n B K) Q := by
  unfold zeroC at hz
  obtain ⟨z, h1, h2⟩ := bind_some hz
  obtain ⟨it, h3, h4⟩ := bind_some h1
  have hr : (execOp a.eval o).run P w = .ok (.value (.pointer (some ⟨w.heap.size, 0, none⟩))) (w.alloc (.cells z.cells t)) := by
    simp [execOp, ho, Instr.alloc, zeroValue, typeInfo, h3, h4, newVar, newRow]
  have h5 := constL_sound h2 φ
  have hzl : z.cells.toList.length = m := by rw [← h5.1.length, hl]
  obtain ⟨φ', h6, h7⟩ := FS.newRow (sz := m) (k := 1) (es := [cs]) (x := z.cells.toList) (ty := t) (w0 := w) (v := .ptr H.next 0 0) (u := .pointer (some ⟨w.heap.size, 0, none⟩)) hs hdn hm (by simp [hl]) (by simpa [List.take_of_length_le (Nat.le_of_eq hzl)] using h5.1) (fun v hv => h5.2 v (List.mem_of_mem_take hv)) (by simp) (by simp [hzl]) rfl rfl rfl rfl
    (by have := VR.ptr (φ := φ.set H.next ⟨w.heap.size, 0, m, 1⟩) H.next 0 0 _ (Phi.set_self _ _ _); simpa using this)
  exact wp_value hd hr ⟨_, _, φ', hk, h6, h7⟩

theorem boxH_wp (hs : FS φ e H n B a w) {o : Oper} {t : TypeId} {x : Operand} {p : O} {d m : Nat} {K : Env → HH → Prop} {Q : Exit → Act → World → Prop} (hd : o.dst = some d) (hdn : d < n) (ho : o.op = .box t x) (hx : trO x = some p) (hm : 0 < m)
    (hk : oK ((e.v p).bind fun v => if v.cells.length = m then some (HObj.arr false m [v.cells], HV.ptr H.next 0 0) else none) fun r => K (e.set d (.val r.2)) (H.new r.1)) : o.wp P a w (After φ H w n B K) Q := by
  obtain ⟨r, h0, hk⟩ := hk
  obtain ⟨v, h1, h2⟩ := bind_some h0
  split at h2
  · rename_i hl
    cases h2
    have hv := trO_v hx hs h1
    obtain ⟨h4, h5⟩ := hv.cells (.inl (by intro h; rw [h] at hl; simp at hl; omega))
    have hr : (execOp a.eval o).run P w = .ok (.value (.pointer (some ⟨w.heap.size, 0, none⟩))) (w.alloc (.cells (a.eval x).cells t)) := by
      simp [execOp, ho, Instr.box, newVar, newRow]
    have hzl : (a.eval x).cells.toList.length = m := by rw [← h4.length, hl]
    obtain ⟨φ', h6, h7⟩ := FS.newRow (sz := m) (k := 1) (es := [v.cells]) (x := (a.eval x).cells.toList) (ty := t) (w0 := w) (v := .ptr H.next 0 0) (u := .pointer (some ⟨w.heap.size, 0, none⟩)) hs hdn hm (by simp [hl]) (by simpa [List.take_of_length_le (Nat.le_of_eq hzl)] using h4) (fun v hv => h5 v (List.mem_of_mem_take hv)) (by simp) (by simp [hzl]) rfl rfl rfl rfl
      (by have := VR.ptr (φ := φ.set H.next ⟨w.heap.size, 0, m, 1⟩) H.next 0 0 _ (Phi.set_self _ _ _); simpa using this)
    exact wp_value hd hr ⟨_, _, φ', hk, h6, h7⟩
  · cases h2

/-- parts of a slice literal -/
def trEls : List (Nat × Operand) → Option (List (Nat × O))
  | [] => some []
  | (i, x) :: r => (trO x).bind fun o => (trEls r).map ((i, o) :: ·)

theorem fillS_sound (hs : FS φ e H n B a w) {m : Nat} (hm : 0 < m) : ∀ {ps : List (Nat × Operand)} {qs : List (Nat × O)}, trEls ps = some qs → ∀ {es es' : List (List HV)} {A : Array Value}, (∀ c ∈ es, c.length = m) → VRs φ es.flatten A.toList → (∀ v ∈ A.toList, v.oneCell' = true) → mkElems e m es qs = some es' →
    ∃ B, Instr.fill (fun i => some (i * m, m)) A (ps.map fun (i, x) => (i, a.eval x)) = some B ∧ VRs φ es'.flatten B.toList ∧ (∀ v ∈ B.toList, v.oneCell' = true) ∧ (∀ c ∈ es', c.length = m) ∧ es'.length = es.length
  | [], qs, h, es, es', A, hl, hA, h1, hk => by
    simp [trEls] at h; subst h
    simp [mkElems] at hk; subst hk
    exact ⟨A, rfl, hA, h1, hl, rfl⟩
  | (i, x) :: r, qs, h, es, es', A, hl, hA, h1, hk => by
    simp only [trEls] at h
    obtain ⟨o, ho, h⟩ := bind_some h
    obtain ⟨qr, hr, rfl⟩ := map_some h
    simp only [mkElems] at hk
    obtain ⟨v, hv, hk⟩ := bind_some hk
    split at hk
    · rename_i hc
      obtain ⟨hlen, hi⟩ := hc
      have hvr := trO_v ho hs hv
      obtain ⟨hcells, hone⟩ := hvr.cells (.inl (by intro h0; rw [h0] at hlen; simp at hlen; omega))
      have hsz : (a.eval x).cells.size = m := by have := hcells.length; simp at this; omega
      have hle : i * m + m ≤ es.length * m := by
        have : (i + 1) * m ≤ es.length * m := Nat.mul_le_mul_right _ hi
        rwa [Nat.add_mul, Nat.one_mul] at this
      have hAs : A.size = es.length * m := by have := hA.length; rw [flat_length hl] at this; simp at this; omega
      have hfold := fold_set (a.eval x).cells.toList (i * m) 0 A (by simp; omega)
      rw [Nat.add_zero, ← Array.toList_zipIdx, Array.foldl_toList] at hfold
      have hl' : ∀ c ∈ es.set i v.cells, c.length = m := by
        intro c hc
        rcases List.mem_or_eq_of_mem_set hc with h | h
        · exact hl c h
        · rw [h]; exact hlen
      obtain ⟨B, hB, h2, h3, h4, h5⟩ := fillS_sound hs hm hr (A := (a.eval x).cells.zipIdx.foldl (fun cs (c, j) => cs.setIfInBounds (i * m + j) c) A) hl' (by rw [hfold, flat_set hl hi hlen]; exact hA.splice hcells _) (by rw [hfold]; exact splice_one h1 hone _) hk
      refine ⟨B, ?_, h2, h3, h4, by rw [h5]; simp⟩
      simp only [List.map_cons, Instr.fill]
      rw [if_neg (by simp [hsz]; omega)]
      exact hB
    · cases hk

theorem mkSlice_wp (hs : FS φ e H n B a w) {o : Oper} {t et : TypeId} {ln d m : Nat} {parts : Array (Nat × Operand)} {qs : List (Nat × O)} {cs : List HV} {K : Env → HH → Prop} {Q : Exit → Act → World → Prop} (hd : o.dst = some d) (hdn : d < n) (ho : o.op = .buildSlice t ln parts) (hu : P.underlying t = some (.slice et))
    (hz : zeroC P et = some cs) (hm : 0 < m) (hl : cs.length = m) (hsz : sizeT P et = some m) (hln : ln * m ≤ 2 ^ 24) (hq : trEls parts.toList = some qs)
    (hk : oK ((mkElems e m (List.replicate ln cs) qs).map fun es => (HObj.arr false m es, HV.slice H.next 0 ln ln true)) fun r => K (e.set d (.val r.2)) (H.new r.1)) : o.wp P a w (After φ H w n B K) Q := by
  obtain ⟨r, h0, hk⟩ := hk
  obtain ⟨es, h1, rfl⟩ := map_some h0
  unfold zeroC at hz
  obtain ⟨z, hz1, hz2⟩ := bind_some hz
  obtain ⟨it, hz3, hz4⟩ := bind_some hz1
  have h5 := constL_sound hz2 φ
  have hzs : z.cells.size = m := by have := h5.1.length; simp at this; omega
  have hflat := made_flat z.cells m ln hzs hm
  have hrep : ∀ c ∈ List.replicate ln cs, c.length = m := fun c hc => by rw [(List.mem_replicate.1 hc).2, hl]
  obtain ⟨B, hB, h6, h7, h8, h9⟩ := fillS_sound hs hm hq (A := (Array.range (ln * m)).map (z.cells[· % z.cells.size]!)) hrep (by rw [hflat]; exact h5.1.rep ln) (by
    rw [hflat]; intro v hv
    obtain ⟨c, hc, hvc⟩ := List.mem_flatten.1 hv
    rw [(List.mem_replicate.1 hc).2] at hvc
    exact h5.2 v hvc) h1
  have hel : es.length = ln := by simpa using h9
  have hBl : B.toList.length = ln * m := by rw [← h6.length, flat_length h8, hel]
  have hr : (execOp a.eval o).run P w = .ok (.value (.slice (some ⟨w.heap.size, 0, none⟩) ln ln)) (w.alloc (.cells B et)) := by
    have hln' : ¬ (ln * m > 2 ^ 24) := by omega
    have hB' : Instr.fill (fun i => some (i * m, m)) ((Array.range (ln * m)).map (z.cells[· % z.cells.size]!)) (parts.toList.map fun (i, x) => (i, a.eval x)) = some B := hB
    have hB'' : Instr.fill (fun i => some (i * m, m)) ((Array.range (ln * m)).map (z.cells[· % z.cells.size]!)) (parts.map fun (i, x) => (i, a.eval x)).toList = some B := by simpa using hB'
    by_cases h0 : ln * m = 0
    · have hnil : ∀ f : Nat → Value, (Array.range (ln * m)).map f = #[] := fun f => by rw [h0]; simp
      rw [hnil] at hB''
      simp only [execOp, ho, Instr.buildSlice, Sem.run_bind, run_underlying hu, Result.andThen_ok, sizeT_run hsz, if_neg hln', Sem.run_pure, if_pos h0, hnil, hB'', newRow, run_newObj]
      rfl
    · have hz0 : (zeroValue et).run P w = .ok z w := by simp [zeroValue, typeInfo, hz3, hz4]
      simp only [execOp, ho, Instr.buildSlice, Sem.run_bind, run_underlying hu, Result.andThen_ok, sizeT_run hsz, if_neg hln', if_neg h0, Sem.run_pure, hz0, hB'', newRow, run_newObj]
      rfl
  obtain ⟨φ', g1, g2⟩ := FS.newRow (sz := m) (k := ln) (es := es) (x := B.toList) (ty := et) (w0 := w) (v := .slice H.next 0 ln ln true) (u := .slice (some ⟨w.heap.size, 0, none⟩) ln ln) hs hdn hm h8 (by rw [hel, ← hBl, List.take_length]; exact h6) (fun v hv => h7 v (List.mem_of_mem_take hv)) (by omega) hBl rfl rfl rfl rfl
    (.slice _ _ _ _ _ ⟨w.heap.size, 0, m, ln⟩ _ _ (Phi.set_self _ _ _) (.inl (by simp)) (Nat.le_refl _) (fun _ => rfl) (Nat.le_refl _) (.inl (by simp)))
  exact wp_value hd hr ⟨_, _, φ', hk, g1, g2⟩
end Go.HL
