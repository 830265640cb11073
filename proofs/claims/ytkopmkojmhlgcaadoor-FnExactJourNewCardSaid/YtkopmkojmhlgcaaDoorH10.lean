/- New variables, new objects. Conditions: none. -/
import Derived.Test.YtkopmkojmhlgcaaDoorH9
namespace Go.HL
variable {φ : Phi} {e : Env} {H : HH} {n B : Nat} {a : Act} {w : World} {P : Program}

theorem flat_set {sz : Nat} : ∀ {es : List (List HV)} {i : Nat} {c : List HV}, (∀ cs ∈ es, cs.length = sz) → i < es.length → c.length = sz → (es.set i c).flatten = splice es.flatten (i * sz) c
  | [], i, c, _, h, _ => by simp at h
  | x :: es, 0, c, hl, _, hc => by
    have hx := hl x (by simp)
    simp only [List.set_cons_zero, List.flatten_cons, splice, Nat.zero_mul, List.take_zero, List.nil_append, Nat.zero_add]
    rw [hc, ← hx, List.drop_left]
  | x :: es, i + 1, c, hl, hi, hc => by
    have hx := hl x (by simp)
    have ih := flat_set (fun cs h => hl cs (List.mem_cons_of_mem _ h)) (by simpa using hi) hc (es := es) (i := i)
    simp only [List.set_cons_succ, List.flatten_cons, ih, splice]
    have e1 : ∀ k, (x ++ es.flatten).take (x.length + k) = x ++ es.flatten.take k := by
      intro k
      rw [List.take_append, List.take_of_length_le (by omega), Nat.add_sub_cancel_left]
    have e2 : ∀ k, (x ++ es.flatten).drop (x.length + k) = es.flatten.drop k := by
      intro k
      rw [← List.drop_drop, List.drop_left]
    rw [show (i + 1) * sz = x.length + i * sz by rw [hx, Nat.add_mul, Nat.one_mul, Nat.add_comm], Nat.add_assoc, e1, e2]
    simp

theorem flat_rep (l : List HV) : ∀ (n : Nat), (∀ cs ∈ List.replicate n l, cs.length = l.length) := fun n cs h => by rw [(List.mem_replicate.1 h).2]

theorem rep_get {α : Type} (l : List α) (hl : 0 < l.length) : ∀ (n j : Nat), j < n * l.length → ((List.replicate n l).flatten)[j]? = l[j % l.length]?
  | 0, j, h => by simp at h
  | n + 1, j, h => by
    rw [List.replicate_succ, List.flatten_cons]
    by_cases hj : j < l.length
    · rw [List.getElem?_append_left hj, Nat.mod_eq_of_lt hj]
    · rw [List.getElem?_append_right (by omega), rep_get l hl n (j - l.length) (by rw [Nat.add_mul] at h; omega), ← Nat.mod_eq_sub_mod (show l.length ≤ j by omega)]

theorem made_flat (z : Array Value) (k n : Nat) (hk : z.size = k) (h0 : 0 < k) : ((Array.range (n * k)).map (z[· % z.size]!)).toList = (List.replicate n z.toList).flatten := by
  apply List.ext_getElem?
  intro j
  by_cases hj : j < n * k
  · rw [rep_get z.toList (by simp; omega) n j (by simpa [hk] using hj)]
    have hm : j % z.size < z.size := Nat.mod_lt _ (by omega)
    simp [hj, hm, getElem!_pos]
  · have h1 : (List.replicate n z.toList).flatten.length = n * k := by simp [hk]
    rw [List.getElem?_eq_none (by simp; omega), List.getElem?_eq_none (by omega)]

theorem VRs.rep {l : List HV} {x : List Value} (h : VRs φ l x) : ∀ n, VRs φ (List.replicate n l).flatten (List.replicate n x).flatten
  | 0 => .nil
  | n + 1 => by rw [List.replicate_succ, List.replicate_succ, List.flatten_cons, List.flatten_cons]; exact h.append (h.rep n)

theorem world_alloc_size (w : World) (o : Obj) : (w.alloc o).heap.size = w.heap.size + 1 := World.size_alloc w o

/-- a new local variable -/
theorem FS.al (h : FS φ e H n B a w) {d : Nat} {cs : List HV} {x : List Value} {ty : TypeId} (hd : d < n) (hv : VRs φ cs x) (h1 : ∀ v ∈ x, v.oneCell' = true) :
    FS φ (e.al d cs) H n B (a.put (some d) (.pointer (some ⟨w.heap.size, 0, none⟩))) (w.alloc (.cells ⟨x⟩ ty)) := by
  have hs : d < a.tmps.size := h.sz ▸ hd
  have hw := h.world (h.sim.keep (w' := w.alloc (.cells ⟨x⟩ ty)) (by simp) (fun b hb => heap_alloc_old _ _ _ hb)) (Fr.grow (by simp) rfl rfl rfl (fun b hb => heap_alloc_old _ _ _ hb))
  refine ⟨hw.bs, hw.sim, ?_, by simp [Act.put, h.sz], h.df, ?_, ?_, ?_⟩
  · intro t
    rw [put_tmps _ _ _ hs]
    simp only [Env.al_t]
    split
    · exact ⟨w.heap.size, by rw [put_tmps _ _ _ hs, if_pos rfl], rfl⟩
    · exact (h.tm t).put hs
  · intro l cs' hl
    simp only [Env.al_l] at hl
    split at hl
    · rename_i e; subst e; cases hl
      refine ⟨w.heap.size, ⟨x⟩, ty, by rw [put_tmps _ _ _ hs, if_pos rfl], heap_alloc_new _ _, VRs.ext (Ext.refl φ) hv, h1, ?_, h.bs⟩
      rintro ⟨i, p, hp, hb, _⟩
      have := (h.sim.dom i p hp).2
      omega
    · rename_i hne
      obtain ⟨b, c, t, g1, g2, g3, g4, g5⟩ := hw.lo l cs' hl
      exact ⟨b, c, t, by rw [put_tmps _ _ _ hs, if_neg hne]; exact g1, g2, g3, g4, g5⟩
  · intro l cs' hl
    simp only [Env.al_l] at hl
    simp only [Env.al_t]
    split at hl
    · rename_i e; rw [if_pos e, e]
    · rename_i hne; rw [if_neg hne, h.lt l cs' hl, TV.clear_loc, if_neg hne]
  · have old : ∀ l cs', l ≠ d → e.l l = some cs' → a.tmps.getD l undef ≠ .pointer (some ⟨w.heap.size, 0, none⟩) := by
      intro l cs' hne hl hc
      obtain ⟨b, c, t, g1, g2, _⟩ := h.lo l cs' hl
      rw [g1] at hc
      cases hc
      rw [Array.getElem?_eq_none (Nat.le_refl _)] at g2
      cases g2
    intro l l' cs1 cs2 hl hl' hne
    simp only [Env.al_l] at hl hl'
    rw [put_tmps _ _ _ hs, put_tmps _ _ _ hs]
    split at hl
    · rename_i e; rw [if_pos e]
      split at hl'
      · rename_i e'; exact absurd (e.trans e'.symm) hne
      · rename_i e'; rw [if_neg e']; exact (old l' cs2 e' hl').symm
    · rename_i e; rw [if_neg e]
      split at hl'
      · rename_i e'; rw [if_pos e']; exact old l cs1 e hl
      · rename_i e'; rw [if_neg e']; exact h.ap l l' cs1 cs2 hl hl' hne

/-- a new object -/
theorem FS.new (h : FS φ e H n B a w) {d : Nat} {o : HObj} {v : HV} {u : Value} {w' : World} {p : Pl} (hd : d < n) (hsz : w.heap.size ≤ w'.heap.size) (ho : w'.os = w.os) (ht : w'.tape = w.tape) (hp : w'.output = w.output)
    (hk : ∀ b, b < w.heap.size → w'.heap[b]? = w.heap[b]?) (hb : w.heap.size ≤ p.blk) (hb' : p.blk < w'.heap.size) (ob : ObR (φ.set H.next p) w' p o) (hv : VR (φ.set H.next p) v u) :
    FS (φ.set H.next p) (e.set d (.val v)) (H.new o) n B (a.put (some d) u) w' ∧ Fr φ H w (φ.set H.next p) (H.new o) w' := by
  have h1 := h.sim.new hsz hk hb hb' ob
  have h2 := Fr.new h.sim (o := o) hsz ho ht hp hk hb
  exact ⟨(h.world h1 h2).put hd hv, h2⟩

theorem Phi.set_self (φ : Phi) (i : Nat) (p : Pl) : (φ.set i p) i = some p := by simp [Phi.set]

/-- a new row of cells as an object -/
theorem FS.newRow (h : FS φ e H n B a w) {d sz k : Nat} {es : List (List HV)} {x : List Value} {v : HV} {u : Value} {ty : TypeId} {w0 : World} (hd : d < n) (hsz : 0 < sz) (hes : ∀ c ∈ es, c.length = sz) (hv : VRs φ es.flatten (x.take (es.length * sz))) (h1 : ∀ v ∈ x.take (es.length * sz), v.oneCell' = true)
    (hk : es.length ≤ k) (hx : x.length = k * sz) (hw : w0.heap = w.heap) (ho : w0.os = w.os) (ht : w0.tape = w.tape) (hp : w0.output = w.output)
    (hu : VR (φ.set H.next ⟨w.heap.size, 0, sz, k⟩) v u) :
    ∃ φ', FS φ' (e.set d (.val v)) (H.new (.arr false sz es)) n B (a.put (some d) u) (w0.alloc (.cells ⟨x⟩ ty)) ∧ Fr φ H w φ' (H.new (.arr false sz es)) (w0.alloc (.cells ⟨x⟩ ty)) := by
  have hb : ∀ b, b < w.heap.size → (w0.alloc (.cells ⟨x⟩ ty)).heap[b]? = w.heap[b]? := fun b hb => by rw [heap_alloc_old _ _ _ (by rw [hw]; exact hb), hw]
  refine ⟨_, FS.new (p := ⟨w.heap.size, 0, sz, k⟩) h hd (by simp [hw]) ho ht hp hb (Nat.le_refl _) (by simp [hw]) ?_ hu⟩
  refine ⟨rfl, hsz, hk, hes, ⟨x⟩, ty, (0, 0), by rw [← hw]; exact heap_alloc_new _ _, by simp [hx], ?_, by simpa using h1, fun _ => ⟨rfl, rfl, by simp [hx]⟩⟩
  simpa using VRs.ext (Ext.set h.sim.fresh) hv
end Go.HL
