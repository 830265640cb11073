/- How a state of the machine reads as a state of the abstract level: values, objects, local variables. What stays while new blocks come. Conditions: none. -/
import Derived.Test.YtkopmkojmhlgcaaDoorH0
namespace Go.HL

/-- where an object lies: its block, its first cell, the cells of an element, how many elements it has room for -/
structure Pl where
  blk : Nat
  off : Nat
  sz : Nat
  tot : Nat

abbrev Phi := Nat → Option Pl

mutual
inductive VR (φ : Phi) : HV → Value → Prop where
  | int (k n) : VR φ (.int k n) (.int k n)
  | bool (b) : VR φ (.bool b) (.bool b)
  | str (s : ByteArray) : VR φ (.str s.data.toList) (.string s)
  | slice (id off len room ex p o cap) : φ id = some p → (o = p.off + off * p.sz ∨ cap = 0) → room ≤ cap → (ex = true → cap = room) → len ≤ room → (off + cap ≤ p.tot ∨ cap = 0) →
      VR φ (.slice id off len room ex) (.slice (some ⟨p.blk, o, none⟩) len cap)
  | nils : VR φ .nils (.slice none 0 0)
  | ptr (id i f p) : φ id = some p → VR φ (.ptr id i f) (.pointer (some ⟨p.blk, p.off + i * p.sz + f, none⟩))
  | nilp : VR φ .nilp (.pointer none)
  | map (id p) : φ id = some p → VR φ (.map id) (.map (some p.blk))
  | nilm : VR φ .nilm (.map none)
  | iter (id p) : φ id = some p → VR φ (.iter id) (.pointer (some ⟨p.blk, 0, none⟩))
  | fn (f a b x y) : VRs φ a x → VRs φ b y → VR φ (.fn f a b) (.func (.func f) ⟨x⟩ ⟨y⟩)
  | nilf : VR φ .nilf .nilFunc
  | agg (l x) : VRs φ l x → (∀ v ∈ x, v.oneCell' = true) → VR φ (.agg l) (.agg ⟨x⟩)
  | tup (l x) : VRs φ l x → VR φ (.tup l) (.tuple ⟨x⟩)
inductive VRs (φ : Phi) : List HV → List Value → Prop where
  | nil : VRs φ [] []
  | cons (a x r s) : VR φ a x → VRs φ r s → VRs φ (a :: r) (x :: s)
end

/-- a later φ knows what an elder one knew -/
def Ext (φ φ' : Phi) : Prop := ∀ i p, φ i = some p → φ' i = some p
theorem Ext.refl (φ : Phi) : Ext φ φ := fun _ _ h => h
theorem Ext.trans {φ φ' φ'' : Phi} (h : Ext φ φ') (k : Ext φ' φ'') : Ext φ φ'' := fun i p e => k i p (h i p e)

mutual
theorem VR.ext {φ φ' : Phi} (h : Ext φ φ') : ∀ {a : HV} {x : Value}, VR φ a x → VR φ' a x
  | _, _, .int k n => .int k n
  | _, _, .bool b => .bool b
  | _, _, .str s => .str s
  | _, _, .slice id off len room ex p o cap hp a b c d e => .slice id off len room ex p o cap (h _ _ hp) a b c d e
  | _, _, .nils => .nils
  | _, _, .ptr id i f p hp => .ptr id i f p (h _ _ hp)
  | _, _, .nilp => .nilp
  | _, _, .map id p hp => .map id p (h _ _ hp)
  | _, _, .nilm => .nilm
  | _, _, .iter id p hp => .iter id p (h _ _ hp)
  | _, _, .fn f a b x y ha hb => .fn f a b x y (VRs.ext h ha) (VRs.ext h hb)
  | _, _, .nilf => .nilf
  | _, _, .agg l x hl ho => .agg l x (VRs.ext h hl) ho
  | _, _, .tup l x hl => .tup l x (VRs.ext h hl)
theorem VRs.ext {φ φ' : Phi} (h : Ext φ φ') : ∀ {a : List HV} {x : List Value}, VRs φ a x → VRs φ' a x
  | _, _, .nil => .nil
  | _, _, .cons a x r s ha hr => .cons a x r s (VR.ext h ha) (VRs.ext h hr)
end

theorem VRs.length {φ : Phi} : ∀ {a : List HV} {x : List Value}, VRs φ a x → a.length = x.length
  | _, _, .nil => rfl
  | _, _, .cons _ _ _ _ _ hr => by simp [hr.length]

theorem VRs.get {φ : Phi} : ∀ {a : List HV} {x : List Value}, VRs φ a x → ∀ (i : Nat) (v : HV), a[i]? = some v → ∃ u, x[i]? = some u ∧ VR φ v u
  | _, _, .nil, i, v, h => by simp at h
  | _, _, .cons a x r s ha hr, 0, v, h => by simp at h; subst h; exact ⟨x, by simp, ha⟩
  | _, _, .cons a x r s ha hr, i + 1, v, h => by simp at h; simpa using hr.get i v h

theorem VRs.get' {φ : Phi} : ∀ {a : List HV} {x : List Value}, VRs φ a x → ∀ (i : Nat) (u : Value), x[i]? = some u → ∃ v, a[i]? = some v ∧ VR φ v u
  | _, _, .nil, i, v, h => by simp at h
  | _, _, .cons a x r s ha hr, 0, v, h => by simp at h; subst h; exact ⟨a, by simp, ha⟩
  | _, _, .cons a x r s ha hr, i + 1, v, h => by simp at h; simpa using hr.get' i v h

theorem VRs.append {φ : Phi} : ∀ {a b : List HV} {x y : List Value}, VRs φ a x → VRs φ b y → VRs φ (a ++ b) (x ++ y)
  | _, _, _, _, .nil, h => h
  | _, _, _, _, .cons a x r s ha hr, h => .cons a x _ _ ha (hr.append h)

theorem VRs.take {φ : Phi} : ∀ {a : List HV} {x : List Value}, VRs φ a x → ∀ n, VRs φ (a.take n) (x.take n)
  | _, _, .nil, n => by simp; exact .nil
  | _, _, .cons a x r s ha hr, 0 => .nil
  | _, _, .cons a x r s ha hr, n + 1 => .cons a x _ _ ha (hr.take n)

theorem VRs.drop {φ : Phi} : ∀ {a : List HV} {x : List Value}, VRs φ a x → ∀ n, VRs φ (a.drop n) (x.drop n)
  | _, _, .nil, n => by simp; exact .nil
  | _, _, .cons a x r s ha hr, 0 => .cons a x r s ha hr
  | _, _, .cons a x r s ha hr, n + 1 => hr.drop n

theorem VRs.split {φ : Phi} {a b : List HV} {x : List Value} (h : VRs φ (a ++ b) x) : VRs φ a (x.take a.length) ∧ VRs φ b (x.drop a.length) :=
  ⟨by simpa using h.take a.length, by simpa using h.drop a.length⟩

theorem VRs.single {φ : Phi} {a : HV} {x : Value} (h : VR φ a x) : VRs φ [a] [x] := .cons _ _ _ _ h .nil

theorem VR.cells {φ : Phi} {a : HV} {x : Value} (h : VR φ a x) (hn : a.cells ≠ [] ∨ ∃ l, a = .agg l) : VRs φ a.cells x.cells.toList ∧ ∀ v ∈ x.cells.toList, v.oneCell' = true := by
  cases h with
  | agg l x hl ho => exact ⟨hl, ho⟩
  | tup l x hl => rcases hn with h | ⟨_, h⟩ <;> simp [HV.cells] at h
  | _ => exact ⟨VRs.single (by constructor <;> assumption), by simp [Value.cells, Value.oneCell']⟩

theorem VRs.one {φ : Phi} : ∀ {a : List HV} {x : List Value}, VRs φ a x → (∀ v ∈ a, v.one = true) → ∀ v ∈ x, v.oneCell' = true
  | _, _, .nil, _ => by simp
  | _, _, .cons a x r s ha hr, h => by
    intro v hv
    simp only [List.mem_cons] at hv
    rcases hv with rfl | hv
    · have := h a (by simp)
      cases ha <;> simp_all [HV.one, Value.oneCell']
    · exact hr.one (fun u hu => h u (by simp [hu])) v hv

/-- an object may be written -/
def HObj.wr : HObj → Bool
  | .arr ro _ _ => !ro
  | _ => true

/-- a block holds an object -/
def ObR (φ : Phi) (w : World) (p : Pl) : HObj → Prop
  | .arr ro sz es => p.sz = sz ∧ 0 < sz ∧ es.length ≤ p.tot ∧ (∀ cs ∈ es, cs.length = sz) ∧
      ∃ c e fr, w.heap[p.blk]? = some (.cells c e fr) ∧ p.off + p.tot * sz ≤ c.size ∧ VRs φ es.flatten ((c.toList.drop p.off).take (es.length * sz)) ∧ (∀ v ∈ (c.toList.drop p.off).take (es.length * sz), v.oneCell' = true) ∧
        (ro = false → p.off = 0 ∧ fr = (0, 0) ∧ c.size = p.tot * sz)
  | .map es => ∃ ents, w.heap[p.blk]? = some (.map ents es.length) ∧ ents.size = es.length ∧
      ∀ i k v, es[i]? = some (k, v) → ∃ m : MapEntry, ents[i]? = some m ∧ VR φ k m.key ∧ VR φ v m.val ∧ m.born = i
  | .iter m seen => ∃ (mm : Option Nat) (clock last : Nat), w.heap[p.blk]? = some (.mapIter mm clock seen.toArray last) ∧
      (match m with | none => mm = none | some id => ∃ q, φ id = some q ∧ mm = some q.blk)

theorem ObR.keep {φ : Phi} {w w' : World} {p : Pl} {o : HObj} (h : ObR φ w p o) (hk : w'.heap[p.blk]? = w.heap[p.blk]?) : ObR φ w' p o := by
  cases o with
  | arr ro sz es =>
    obtain ⟨h1, h2, h3, h4, c, e, fr, h5, h6⟩ := h
    exact ⟨h1, h2, h3, h4, c, e, fr, hk.trans h5, h6⟩
  | map es =>
    obtain ⟨ents, h1, h2⟩ := h
    exact ⟨ents, hk.trans h1, h2⟩
  | iter m seen =>
    obtain ⟨mm, clock, last, h1, h2⟩ := h
    exact ⟨mm, clock, last, hk.trans h1, h2⟩

theorem ObR.ext {φ φ' : Phi} {w : World} {p : Pl} {o : HObj} (h : ObR φ w p o) (hx : Ext φ φ') : ObR φ' w p o := by
  cases o with
  | arr ro sz es =>
    obtain ⟨h1, h2, h3, h4, c, e, fr, h5, h6, h7, h8⟩ := h
    exact ⟨h1, h2, h3, h4, c, e, fr, h5, h6, VRs.ext hx h7, h8⟩
  | map es =>
    obtain ⟨ents, h1, h2, h3⟩ := h
    refine ⟨ents, h1, h2, fun i k v hi => ?_⟩
    obtain ⟨m, a, b, c, d⟩ := h3 i k v hi
    exact ⟨m, a, VR.ext hx b, VR.ext hx c, d⟩
  | iter m seen =>
    obtain ⟨mm, clock, last, h1, h2⟩ := h
    refine ⟨mm, clock, last, h1, ?_⟩
    cases m with
    | none => exact h2
    | some id => obtain ⟨q, h3, h4⟩ := h2; exact ⟨q, hx _ _ h3, h4⟩

def Wr (H : HH) (i : Nat) : Prop := ∃ o, H.get i = some o ∧ o.wr = true

/-- the blocks of the objects that may be written -/
def Wb (φ : Phi) (H : HH) (b : Nat) : Prop := ∃ i p, φ i = some p ∧ p.blk = b ∧ Wr H i

/-- the blocks of objects -/
def Lb (φ : Phi) (H : HH) (b : Nat) : Prop := ∃ i p, φ i = some p ∧ p.blk = b ∧ H.get i ≠ none
theorem Wb.lb {φ : Phi} {H : HH} {b : Nat} (h : Wb φ H b) : Lb φ H b := by
  obtain ⟨i, p, h1, h2, o, h3, _⟩ := h
  exact ⟨i, p, h1, h2, by rw [h3]; simp⟩

structure Sim (φ : Phi) (w : World) (H : HH) : Prop where
  inj : ∀ i j p q, φ i = some p → φ j = some q → p.blk = q.blk → Wr H i → H.get j ≠ none → i = j
  dom : ∀ i p, φ i = some p → i < H.next ∧ p.blk < w.heap.size
  ob : ∀ i p o, φ i = some p → H.get i = some o → ObR φ w p o
  nx : ∀ i, H.next ≤ i → H.get i = none

def Phi.set (φ : Phi) (id : Nat) (p : Pl) : Phi := fun i => if i = id then some p else φ i
theorem Ext.set {φ : Phi} {id : Nat} {p : Pl} (h : φ id = none) : Ext φ (φ.set id p) := fun i q hi => by
  unfold Phi.set
  split
  · rename_i e; subst e; rw [h] at hi; cases hi
  · exact hi

theorem Sim.fresh {φ : Phi} {w : World} {H : HH} (h : Sim φ w H) : φ H.next = none := by
  cases e : φ H.next with
  | none => rfl
  | some p => have := (h.dom _ _ e).1; omega

theorem Sim.keep {φ : Phi} {w w' : World} {H : HH} (h : Sim φ w H) (hs : w.heap.size ≤ w'.heap.size) (hk : ∀ b, b < w.heap.size → w'.heap[b]? = w.heap[b]?) : Sim φ w' H :=
  ⟨h.inj, fun i p e => ⟨(h.dom i p e).1, Nat.lt_of_lt_of_le (h.dom i p e).2 hs⟩, fun i p o e eo => (h.ob i p o e eo).keep (hk _ (h.dom i p e).2), h.nx⟩

/-- a new object in a new block -/
theorem Sim.new {φ : Phi} {w w' : World} {H : HH} (h : Sim φ w H) {o : HObj} {p : Pl} (hs : w.heap.size ≤ w'.heap.size) (hk : ∀ b, b < w.heap.size → w'.heap[b]? = w.heap[b]?)
    (hb : w.heap.size ≤ p.blk) (hb' : p.blk < w'.heap.size) (ob : ObR (φ.set H.next p) w' p o) : Sim (φ.set H.next p) w' (H.new o) := by
  have hx := Ext.set (p := p) h.fresh
  refine ⟨?_, ?_, ?_, ?_⟩
  · intro i j q r hi hj hq hw hg
    unfold Phi.set at hi hj
    split at hi <;> split at hj
    · rename_i a b; rw [a, b]
    · cases hi; have := (h.dom j r hj).2; omega
    · cases hj; have := (h.dom i q hi).2; omega
    · rename_i h1 h2
      refine h.inj i j q r hi hj hq ?_ ?_
      · obtain ⟨o', ho, hwr⟩ := hw; simp only [HH.new_get, if_neg h1] at ho; exact ⟨o', ho, hwr⟩
      · simpa only [HH.new_get, if_neg h2] using hg
  · intro i q hi
    unfold Phi.set at hi
    split at hi
    · rename_i e; cases hi; subst e; exact ⟨Nat.lt_succ_self _, hb'⟩
    · have := h.dom i q hi; exact ⟨Nat.lt_succ_of_lt this.1, Nat.lt_of_lt_of_le this.2 hs⟩
  · intro i q o' hi ho
    simp only [HH.new_get] at ho
    unfold Phi.set at hi
    split at hi
    · rename_i e; rw [if_pos e] at ho; cases hi; cases ho; exact ob
    · rename_i e; rw [if_neg e] at ho; exact ((h.ob i q o' hi ho).keep (hk _ (h.dom i q hi).2)).ext hx
  · intro i hi
    simp only [HH.new_next] at hi
    simp only [HH.new_get]
    rw [if_neg (by omega)]
    exact h.nx i (by omega)

/-- what a run may have done: of the blocks that were there only those of objects that may be written have turned -/
structure Fr (φ : Phi) (H : HH) (w : World) (φ' : Phi) (H' : HH) (w' : World) : Prop where
  ext : Ext φ φ'
  size : w.heap.size ≤ w'.heap.size
  os : w'.os = w.os
  tape : w'.tape = w.tape
  output : w'.output = w.output
  keep : ∀ b, b < w.heap.size → ¬ Wb φ H b → w'.heap[b]? = w.heap[b]?
  wb : ∀ b, b < w.heap.size → Wb φ' H' b → Wb φ H b
  lb : ∀ b, b < w.heap.size → Lb φ' H' b → Lb φ H b
  nx : H.next ≤ H'.next

theorem Fr.refl (φ : Phi) (H : HH) (w : World) : Fr φ H w φ H w := ⟨Ext.refl φ, Nat.le_refl _, rfl, rfl, rfl, fun _ _ _ => rfl, fun _ _ h => h, fun _ _ h => h, Nat.le_refl _⟩
theorem Fr.trans {φ φ' φ'' : Phi} {H H' H'' : HH} {w w' w'' : World} (a : Fr φ H w φ' H' w') (b : Fr φ' H' w' φ'' H'' w'') : Fr φ H w φ'' H'' w'' where
  ext := a.ext.trans b.ext
  size := Nat.le_trans a.size b.size
  os := b.os.trans a.os
  tape := b.tape.trans a.tape
  output := b.output.trans a.output
  keep := fun k hk hn => (b.keep k (Nat.lt_of_lt_of_le hk a.size) (fun h => hn (a.wb k hk h))).trans (a.keep k hk hn)
  wb := fun k hk h => a.wb k hk (b.wb k (Nat.lt_of_lt_of_le hk a.size) h)
  lb := fun k hk h => a.lb k hk (b.lb k (Nat.lt_of_lt_of_le hk a.size) h)
  nx := Nat.le_trans a.nx b.nx

theorem Fr.grow {φ : Phi} {H : HH} {w w' : World} (hs : w.heap.size ≤ w'.heap.size) (ho : w'.os = w.os) (ht : w'.tape = w.tape) (hp : w'.output = w.output) (hk : ∀ b, b < w.heap.size → w'.heap[b]? = w.heap[b]?) : Fr φ H w φ H w' :=
  ⟨Ext.refl φ, hs, ho, ht, hp, fun b hb _ => hk b hb, fun _ _ h => h, fun _ _ h => h, Nat.le_refl _⟩

theorem Fr.new {φ : Phi} {H : HH} {w w' : World} (h : Sim φ w H) {o : HObj} {p : Pl} (hs : w.heap.size ≤ w'.heap.size) (ho : w'.os = w.os) (ht : w'.tape = w.tape) (hp : w'.output = w.output)
    (hk : ∀ b, b < w.heap.size → w'.heap[b]? = w.heap[b]?) (hb : w.heap.size ≤ p.blk) : Fr φ H w (φ.set H.next p) (H.new o) w' := by
  refine ⟨Ext.set h.fresh, hs, ho, ht, hp, fun b hb' _ => hk b hb', ?_, ?_, Nat.le_succ _⟩
  · rintro b hlt ⟨i, q, hi, rfl, o', ho', hw⟩
    unfold Phi.set at hi
    simp only [HH.new_get] at ho'
    split at hi
    · cases hi; omega
    · rename_i e; rw [if_neg e] at ho'; exact ⟨i, q, hi, rfl, o', ho', hw⟩
  · rintro b hlt ⟨i, q, hi, rfl, hw⟩
    unfold Phi.set at hi
    simp only [HH.new_get] at hw
    split at hi
    · cases hi; omega
    · rename_i e; rw [if_neg e] at hw; exact ⟨i, q, hi, rfl, hw⟩

/-- a local variable lies in a block of its own -/
def LocR (φ : Phi) (H : HH) (B : Nat) (a : Act) (w : World) (l : Nat) (cs : List HV) : Prop :=
  ∃ b c e, a.tmps.getD l undef = .pointer (some ⟨b, 0, none⟩) ∧ w.heap[b]? = some (.cells c e (0, 0)) ∧ VRs φ cs c.toList ∧ (∀ v ∈ c.toList, v.oneCell' = true) ∧ ¬ Lb φ H b ∧ B ≤ b

def TR (φ : Phi) (a : Act) : TV → Value → Prop
  | .val v, x => VR φ v x
  | .loc l f, x => ∃ b, a.tmps.getD l undef = .pointer (some ⟨b, 0, none⟩) ∧ x = .pointer (some ⟨b, f, none⟩)
  | .bad, _ => True

theorem TR.ext {φ φ' : Phi} {a : Act} {tv : TV} {x : Value} (h : TR φ a tv x) (k : Ext φ φ') : TR φ' a tv x := by
  cases tv with
  | val u => exact VR.ext k h
  | loc l f => exact h
  | bad => trivial

structure FS (φ : Phi) (e : Env) (H : HH) (n B : Nat) (a : Act) (w : World) : Prop where
  bs : B ≤ w.heap.size
  sim : Sim φ w H
  tm : ∀ t, TR φ a (e.t t) (a.tmps.getD t undef)
  sz : a.tmps.size = n
  df : a.defers = []
  lo : ∀ l cs, e.l l = some cs → LocR φ H B a w l cs
  lt : ∀ l cs, e.l l = some cs → e.t l = .loc l 0
  ap : ∀ l l' cs cs', e.l l = some cs → e.l l' = some cs' → l ≠ l' → a.tmps.getD l undef ≠ a.tmps.getD l' undef

theorem FS.world {φ φ' : Phi} {e : Env} {H H' : HH} {n B : Nat} {a : Act} {w w' : World} (h : FS φ e H n B a w) (hs : Sim φ' w' H') (hf : Fr φ H w φ' H' w') : FS φ' e H' n B a w' := by
  refine ⟨Nat.le_trans h.bs hf.size, hs, ?_, h.sz, h.df, ?_, h.lt, h.ap⟩
  · exact fun t => (h.tm t).ext hf.ext
  · intro l cs hl
    obtain ⟨b, c, ty, h1, h2, h3, h4, h5⟩ := h.lo l cs hl
    have hb : b < w.heap.size := by
      rcases Nat.lt_or_ge b w.heap.size with hb | hb
      · exact hb
      · rw [Array.getElem?_eq_none hb] at h2; cases h2
    exact ⟨b, c, ty, h1, (hf.keep b hb (fun hw => h5.1 hw.lb)).trans h2, VRs.ext hf.ext h3, h4, fun hw => h5.1 (hf.lb b hb hw), h5.2⟩
end Go.HL
