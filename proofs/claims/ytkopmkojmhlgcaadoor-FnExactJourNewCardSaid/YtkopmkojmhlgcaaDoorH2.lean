/- Each kind of pure instruction: what the abstract level computes the machine computes. The state behind a new value, a new variable, a new object. Conditions: none. -/
import Derived.Test.YtkopmkojmhlgcaaDoorH1
namespace Go.HL
variable {φ : Phi} {e : Env} {H : HH} {n B : Nat} {a : Act} {w : World} {P : Program}

theorem put_tmps (a : Act) (d : Nat) (v : Value) (h : d < a.tmps.size) (t : Nat) : (a.put (some d) v).tmps.getD t undef = if t = d then v else a.tmps.getD t undef := by
  simp only [Act.put, Array.getD_eq_getD_getElem?, Array.getElem?_setIfInBounds]
  by_cases e : d = t
  · subst e; simp [h]
  · rw [if_neg e, if_neg (fun h => e h.symm)]

theorem TR.put {tv : TV} {x v : Value} {d : Nat} (h : TR φ a tv x) (hd : d < a.tmps.size) : TR φ (a.put (some d) v) (tv.clear d) x := by
  cases tv with
  | val u => exact h
  | bad => exact h
  | loc l f =>
    obtain ⟨b, h1, h2⟩ := h
    simp only [TV.clear_loc]
    split
    · trivial
    · rename_i hne
      exact ⟨b, by rw [put_tmps _ _ _ hd, if_neg hne]; exact h1, h2⟩

/-- a value in a temporary -/
theorem FS.put (h : FS φ e H n B a w) {d : Nat} {tv : TV} {v : Value} (hd : d < n) (hv : TR φ a tv v) : FS φ (e.set d tv) H n B (a.put (some d) v) w := by
  have hs : d < a.tmps.size := h.sz ▸ hd
  refine ⟨h.bs, h.sim, ?_, by simp [Act.put, h.sz], h.df, ?_, ?_, ?_⟩
  · intro t
    rw [put_tmps _ _ _ hs]
    simp only [Env.set_t]
    split
    · exact hv.put hs
    · exact (h.tm t).put hs
  · intro l cs hl
    simp only [Env.set_l] at hl
    split at hl
    · cases hl
    · rename_i hne
      obtain ⟨b, c, ty, h1, h2, h3, h4, h5⟩ := h.lo l cs hl
      exact ⟨b, c, ty, by rw [put_tmps _ _ _ hs, if_neg hne]; exact h1, h2, h3, h4, h5⟩
  · intro l cs hl
    simp only [Env.set_l] at hl
    split at hl
    · cases hl
    · rename_i hne
      simp only [Env.set_t, if_neg hne, h.lt l cs hl, TV.clear_loc]
  · intro l l' cs cs' hl hl' hne
    simp only [Env.set_l] at hl hl'
    split at hl
    · cases hl
    · split at hl'
      · cases hl'
      · rename_i h1 h2
        rw [put_tmps _ _ _ hs, put_tmps _ _ _ hs, if_neg h1, if_neg h2]
        exact h.ap l l' cs cs' hl hl' hne

/-- what an operand holds -/
theorem FS.ev (h : FS φ e H n B a w) : ∀ (o : O) (x : Operand), (match o with | .t k => x = .tmp k | .c v => ∃ u, (∀ b : Act, b.eval x = u) ∧ ∀ φ, VR φ v u) → TR φ a (e.ev o) (a.eval x) := by
  intro o x hx
  cases o with
  | t k => subst hx; exact h.tm k
  | c v => obtain ⟨u, hu, hv⟩ := hx; rw [hu]; exact hv φ

/-! ### flat arrays -/
theorem flat_length {sz : Nat} : ∀ {es : List (List HV)}, (∀ cs ∈ es, cs.length = sz) → es.flatten.length = es.length * sz
  | [], _ => by simp
  | c :: es, h => by
    have := flat_length (fun cs hc => h cs (by simp [hc])) (es := es)
    simp [this, h c (by simp), Nat.add_mul, Nat.add_comm]

theorem flat_drop {sz : Nat} : ∀ {es : List (List HV)} {i : Nat} {cs : List HV}, (∀ cs ∈ es, cs.length = sz) → es[i]? = some cs → es.flatten.drop (i * sz) = cs ++ (es.drop (i + 1)).flatten
  | [], i, cs, _, h => by simp at h
  | c :: es, 0, cs, h, hi => by simp at hi; subst hi; simp
  | c :: es, i + 1, cs, h, hi => by
    simp at hi
    have := flat_drop (fun cs hc => h cs (by simp [hc])) hi
    have hc := h c (by simp)
    rw [List.flatten_cons, Nat.add_mul, Nat.one_mul, Nat.add_comm, ← hc, ← List.drop_drop, List.drop_left, hc, this]
    simp

/-- the cells of an element lie one behind the other -/
theorem elem_cells {sz : Nat} {es : List (List HV)} {L : List Value} {o : Nat} (hl : ∀ cs ∈ es, cs.length = sz) (hv : VRs φ es.flatten ((L.drop o).take (es.length * sz)))
    {i : Nat} {cs : List HV} (hi : es[i]? = some cs) {f m : Nat} (hf : f + m ≤ sz) : VRs φ ((cs.drop f).take m) ((L.drop (o + i * sz + f)).take m) := by
  have hcs : cs.length = sz := hl cs (List.mem_of_getElem? hi)
  have hlt : i < es.length := by
    rcases Nat.lt_or_ge i es.length with h | h
    · exact h
    · rw [List.getElem?_eq_none h] at hi; cases hi
  have h1 := (hv.drop (i * sz)).take sz
  rw [flat_drop hl hi, ← hcs, List.take_left, hcs] at h1
  have hle : i * sz + sz ≤ es.length * sz := by
    have : (i + 1) * sz ≤ es.length * sz := Nat.mul_le_mul_right _ hlt
    rwa [Nat.add_mul, Nat.one_mul] at this
  rw [List.drop_take, List.take_take, List.drop_drop, Nat.min_eq_left (by omega)] at h1
  have h2 := (h1.drop f).take m
  rwa [List.drop_take, List.take_take, List.drop_drop, Nat.min_eq_left (by omega)] at h2

theorem getCells_agg {m f : Nat} {cs : List HV} {v : HV} (h : getCells true m f cs = some v) : f + m ≤ cs.length ∧ v = .agg ((cs.drop f).take m) := by
  unfold getCells at h
  simp only [if_true] at h
  split at h
  · exact ⟨by assumption, by cases h; rfl⟩
  · cases h

theorem add_mk (b o k : Nat) : (⟨b, o, none⟩ : Addr).add k = ⟨b, o + k, none⟩ := by unfold Addr.add; split <;> simp_all

/-- reading a variable out of a row of cells -/
theorem run_cells {agg : Bool} {t : TypeId} {m f b o : Nat} {cs : List HV} {v : HV} {c : Array Value} {ty : TypeId} {fr : Nat × Nat} (hg : getCells agg m f cs = some v)
    (hb : w.heap[b]? = some (.cells c ty fr)) (hv : VRs φ ((cs.drop f).take (if agg then m else 1)) ((c.toList.drop (o + f)).take (if agg then m else 1)))
    (h1 : ∀ v ∈ (c.toList.drop (o + f)).take (if agg then m else 1), v.oneCell' = true)
    (hagg : (isAgg t).run P w = .ok agg w) (hsz : agg = true → (sizeOf t).run P w = .ok m w) :
    ∃ u, (loadVar t ⟨b, o + f, none⟩).run P w = .ok u w ∧ VR φ v u := by
  have hcell : ∀ j u, ((c.toList.drop (o + f)).take (if agg then m else 1))[j]? = some u → w.cell? ((⟨b, o + f, none⟩ : Addr).add j) = some u := by
    intro j u hj
    generalize (if agg then m else 1) = k at hj
    rw [add_mk, World.cell?, hb]
    simp only [Option.isSome_none, Bool.false_eq_true, if_false]
    rw [List.getElem?_take, List.getElem?_drop] at hj
    split at hj
    · simpa using hj
    · cases hj
  cases agg with
  | true =>
    obtain ⟨hle, rfl⟩ := getCells_agg hg
    simp only [if_true] at hv h1 hcell
    have hlen : ((c.toList.drop (o + f)).take m).length = m := by rw [← hv.length]; simp; omega
    have hr := run_loadCells_list (P := P) w ⟨b, o + f, none⟩ _ hcell
    rw [hlen] at hr
    refine ⟨.agg ⟨(c.toList.drop (o + f)).take m⟩, ?_, .agg _ _ hv h1⟩
    simp [loadVar, hagg, hsz rfl, hr]
  | false =>
    simp only [getCells, Bool.false_eq_true, if_false] at hg
    simp only [Bool.false_eq_true, if_false] at hv h1 hcell
    have hg' : ((cs.drop f).take 1)[0]? = some v := by simp [List.getElem?_drop, hg]
    obtain ⟨u, hu, hvr⟩ := hv.get 0 v hg'
    have hc := hcell 0 u hu
    refine ⟨u, ?_, hvr⟩
    rw [add_mk, Nat.add_zero] at hc
    simp [loadVar, hagg, hc]
end Go.HL
