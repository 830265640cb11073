/- More operations that only compute: comparisons, numbers, strings, slices of slices, parts of structs, look-ups. Conditions: none. -/
import Derived.Test.YtkopmkojmhlgcaaDoorH3
import Derived.Laws.Small
namespace Go.HL
variable {φ : Phi} {e : Env} {H : HH} {n B : Nat} {a : Act} {w : World} {P : Program}

/-! ### parts of values -/
theorem part_sound {t : TypeId} {agg : Bool} {m off : Nat} {l : List HV} {x : List Value} {v : HV} (hl : VRs φ l x) (ho : ∀ v ∈ x, v.oneCell' = true) (hv : getCells agg m off l = some v)
    (ha : aggT P t = some agg) (hz : sizeT P t = some m) : ∃ u, (part t ⟨x⟩ off).run P w = .ok u w ∧ VR φ v u := by
  cases agg with
  | true =>
    obtain ⟨hle, rfl⟩ := getCells_agg hv
    refine ⟨.agg ⟨(x.drop off).take m⟩, ?_, .agg _ _ ((hl.drop off).take m) (fun v hv => ho v (List.mem_of_mem_drop (List.mem_of_mem_take hv)))⟩
    simp only [part, Sem.run_bind, aggT_run ha, Result.andThen_ok, if_true, sizeT_run hz, Sem.run_pure]
    congr 2
    apply Array.ext'
    simp [List.take_drop]
  | false =>
    simp only [getCells, Bool.false_eq_true, if_false] at hv
    obtain ⟨u, hu, hvr⟩ := hl.get off v hv
    refine ⟨u, ?_, hvr⟩
    simp [part, aggT_run ha, hu]

theorem field_sound {s ft : TypeId} {f off m : Nat} {agg : Bool} {x : Value} {l : List HV} {v : HV} (hx : VR φ (.agg l) x) (hf : fieldT P s f = some (off, ft)) (hv : getCells agg m off l = some v)
    (ha : aggT P ft = some agg) (hz : sizeT P ft = some m) : ∃ u, (Instr.field s x f).run P w = .ok u w ∧ VR φ v u := by
  unfold fieldT at hf
  split at hf
  · rename_i fs hu
    cases hg : fs[f]? with
    | none => simp [hg] at hf
    | some fd =>
      simp [hg] at hf
      obtain ⟨rfl, rfl⟩ := hf
      cases hx with
      | agg _ x hl ho =>
        obtain ⟨u, h1, h2⟩ := part_sound (P := P) (w := w) hl ho hv ha hz
        exact ⟨u, by simp [Instr.field, run_underlying hu, hg, asAgg, h1], h2⟩
  · cases hf

theorem extract_sound {x : Value} {l : List HV} {v : HV} {i : Nat} (hx : VR φ (.tup l) x) (hv : l[i]? = some v) : ∃ u, (Instr.extract x i).run P w = .ok u w ∧ VR φ v u := by
  cases hx with
  | tup _ x hl =>
    obtain ⟨u, h1, h2⟩ := hl.get i v hv
    exact ⟨u, by simp [Instr.extract, h1], h2⟩

theorem idxA_sound {t et : TypeId} {ln m : Nat} {agg : Bool} {x : Value} {l : List HV} {k : IntKind} {q : Int} {v : HV} (hx : VR φ (.agg l) x) (ht : P.underlying t = some (.array ln et)) (hq : 0 ≤ q ∧ q < ln)
    (hv : getCells agg m (q.toNat * m) l = some v) (ha : aggT P et = some agg) (hz : sizeT P et = some m) : ∃ u, (Instr.index t x (.int k q)).run P w = .ok u w ∧ VR φ v u := by
  cases hx with
  | agg _ x hl ho =>
    obtain ⟨u, h1, h2⟩ := part_sound (P := P) (w := w) hl ho hv ha hz
    exact ⟨u, by simp [Instr.index, asIntOf, run_underlying ht, hq.1, hq.2, sizeT_run hz, h1], h2⟩

theorem str_eq {l : List UInt8} {x : Value} (h : VR φ (.str l) x) : x = .string ⟨l.toArray⟩ := by
  cases h with
  | str s => simp
theorem str_mk (l : List UInt8) : VR φ (.str l) (.string ⟨l.toArray⟩) := by
  have := VR.str (φ := φ) ⟨l.toArray⟩
  simpa using this

theorem idxS_sound {t : TypeId} {x : Value} {s : List UInt8} {k : IntKind} {q : Int} {b : UInt8} (hx : VR φ (.str s) x) (ht : P.underlying t = some .string) (hq : 0 ≤ q) (hb : s[q.toNat]? = some b) :
    (Instr.index t x (.int k q)).run P w = .ok (.int .u8 b.toNat) w := by
  rw [str_eq hx]
  have hlt : q.toNat < s.length := by
    rcases Nat.lt_or_ge q.toNat s.length with h | h
    · exact h
    · rw [List.getElem?_eq_none h] at hb; cases hb
  have : (ByteArray.mk s.toArray)[q.toNat]? = some b := by
    have hsz : q.toNat < (ByteArray.mk s.toArray).size := by simpa [ByteArray.size] using hlt
    rw [getElem?_pos (ByteArray.mk s.toArray) q.toNat hsz]
    rw [List.getElem?_eq_getElem hlt] at hb
    simp only [Option.some.injEq] at hb ⊢
    rw [← hb]
    rfl
  simp [Instr.index, asIntOf, run_underlying ht, hq, this]

/-! ### numbers and comparisons -/
theorem un_sound {op : UnOp} {x : Value} {u v : HV} (hx : VR φ u x) (hv : unV op u = some v) : ∃ y, (Op.unary op x).run P w = .ok y w ∧ VR φ v y := by
  unfold unV at hv
  split at hv
  · cases hv; cases hx; exact ⟨_, by simp only [Op.unary, Sem.run_pure], .bool _⟩
  · cases hv; cases hx; exact ⟨_, by simp only [Op.unary, Op.intArith, Sem.run_pure], .int _ _⟩
  · cases hv

/-- a type whose values are compared cell by cell: numbers, bools, strings, structs of these whose fields lie side by side -/
def flatGo (fk : TypeId → Option (List Leaf)) : List Field → Nat → Option (List Leaf)
  | [], _ => some []
  | f :: r, o => if f.offset = o ∧ f.name ≠ "_" then (fk f.type).bind fun k => (flatGo fk r (o + k.length)).map (k ++ ·) else none
def flatK (P : Program) : Nat → TypeId → Option (List Leaf)
  | 0, _ => none
  | d + 1, t =>
    match P.underlying t with
    | some .bool => if sizeT P t = some 1 then some [.b] else none
    | some (.int _) => if sizeT P t = some 1 then some [.i] else none
    | some .string => if sizeT P t = some 1 then some [.s] else none
    | some (.struct fs) => if P.stoodInHeld t then none else (flatGo (flatK P d) fs.toList 0).bind fun k => if sizeT P t = some k.length then some k else none
    | _ => none

theorem eqL_append : ∀ {k1 k2 : List Leaf} {a b c d : List HV} {r : Bool}, a.length = k1.length → b.length = k1.length → eqL (k1 ++ k2) (a ++ c) (b ++ d) = some r → ∃ r1 r2, eqL k1 a b = some r1 ∧ eqL k2 c d = some r2 ∧ r = (r1 && r2)
  | [], k2, [], [], c, d, r, _, _, h => ⟨true, r, rfl, h, by simp⟩
  | k :: k1, k2, x :: a, y :: b, c, d, r, hl, hl', h => by
    simp only [List.cons_append, eqL] at h
    cases hs : eqS k x y with
    | none => simp [hs] at h
    | some q =>
      cases ht : eqL (k1 ++ k2) (a ++ c) (b ++ d) with
      | none => simp [hs, ht] at h
      | some z =>
        simp [hs, ht] at h
        obtain ⟨r1, r2, h1, h2, h3⟩ := eqL_append (by simpa using hl) (by simpa using hl') ht
        exact ⟨q && r1, r2, by simp [eqL, hs, h1], h2, by rw [← h, h3, Bool.and_assoc]⟩

theorem eqL_length : ∀ {ks : List Leaf} {a b : List HV} {r : Bool}, eqL ks a b = some r → a.length = ks.length ∧ b.length = ks.length
  | [], [], [], _, _ => ⟨rfl, rfl⟩
  | k :: ks, x :: a, y :: b, r, h => by
    simp only [eqL] at h
    cases hs : eqS k x y with
    | none => simp [hs] at h
    | some q =>
      cases ht : eqL ks a b with
      | none => simp [hs, ht] at h
      | some z => have := eqL_length ht; simp [this.1, this.2]
  | [], [], _ :: _, _, h => by simp [eqL] at h
  | [], _ :: _, _, _, h => by simp [eqL] at h
  | _ :: _, [], _, _, h => by simp [eqL] at h
  | _ :: _, _ :: _, [], _, h => by simp [eqL] at h

/-- the value of a type out of its cells -/
def valC (P : Program) (t : TypeId) (x : List Value) : Value :=
  match P.underlying t with
  | some (.struct _) => .agg ⟨x⟩
  | _ => x.getD 0 undef

def leafT (P : Program) (t : TypeId) : Leaf → Prop
  | .b => P.underlying t = some .bool
  | .i => ∃ q, P.underlying t = some (.int q)
  | .s => P.underlying t = some .string
theorem eqS_run {d : Nat} {t : TypeId} {x y : HV} {u v : Value} {b : Bool} {k : Leaf} (hx : VR φ x u) (hy : VR φ y v) (hb : eqS k x y = some b) (w : World)
    (ht : leafT P t k) :
    (Op.equalIn (d + 1) t u v).run P w = .ok b w := by
  unfold eqS at hb
  split at hb
  · split at hb
    · rename_i hk
      subst hk
      cases hb; cases hx; cases hy
      obtain ⟨q, hq⟩ := ht
      exact run_equalIn_int w d t _ q _ _ hq
    · cases hb
  · cases hb; cases hx; cases hy
    exact run_equalIn_bool w d t _ _ ht
  · cases hb
    rename_i p q
    rw [str_eq hx, str_eq hy, run_equalIn_string w d t _ _ ht]
    congr 1
    rw [ByteArray.toList_eq, ByteArray.toList_eq]
  · cases hb

theorem flatK_sound : ∀ (d : Nat) {t : TypeId} {ks : List Leaf}, flatK P d t = some ks → ∀ {D : Nat}, d ≤ D → ∀ {l1 l2 : List HV} {x y : List Value} {b : Bool}, VRs φ l1 x → VRs φ l2 y → (∀ v ∈ x, v.oneCell' = true) → (∀ v ∈ y, v.oneCell' = true) → eqL ks l1 l2 = some b →
    ∀ w, (Op.equalIn D t (valC P t x) (valC P t y)).run P w = .ok b w
  | 0, t, ks, h, D, _, l1, l2, x, y, b, _, _, _, _, _, _ => by simp [flatK] at h
  | d + 1, t, ks, h, D, hD, l1, l2, x, y, b, hx, hy, h1x, h1y, hb, w => by
    obtain ⟨D, rfl⟩ : ∃ m, D = m + 1 := ⟨D - 1, by omega⟩
    have scalar : ∀ {k : Leaf}, ks = [k] → (∀ u : List Value, valC P t u = u.getD 0 undef) → leafT P t k →
        (Op.equalIn (D + 1) t (valC P t x) (valC P t y)).run P w = .ok b w := by
      intro k hk hval ht
      subst hk
      obtain ⟨e1, e2⟩ := eqL_length hb
      match l1, l2, e1, e2, hx, hy, hb with
      | [p], [q], _, _, .cons _ u _ _ hu .nil, .cons _ v _ _ hv .nil, hb =>
        rw [hval, hval]
        cases hs : eqS k p q with
        | none => simp [eqL, hs] at hb
        | some r =>
          simp [eqL, hs] at hb
          subst hb
          exact eqS_run hu hv hs w ht
    unfold flatK at h
    split at h
    · rename_i hu
      split at h
      · cases h; exact scalar rfl (fun u => by simp [valC, hu]) hu
      · cases h
    · rename_i q hu
      split at h
      · cases h; exact scalar rfl (fun u => by simp [valC, hu]) ⟨_, hu⟩
      · cases h
    · rename_i hu
      split at h
      · cases h; exact scalar rfl (fun u => by simp [valC, hu]) hu
      · cases h
    · rename_i fs hu
      split at h
      · cases h
      · rename_i hst
        cases hg : flatGo (flatK P d) fs.toList 0 with
        | none => simp [hg] at h
        | some k =>
          simp [hg] at h
          obtain ⟨hsz, rfl⟩ := h
          have hval : ∀ u : List Value, valC P t u = .agg ⟨u⟩ := fun u => by simp [valC, hu]
          have hfo : P.fieldsOf t = fs := by simp [Program.fieldsOf, hu]
          rw [hval, hval, run_equalIn_struct w D t ⟨x⟩ ⟨y⟩ (by rw [hfo]; exact hu) (by simpa using hst), hfo]
          have key : ∀ (fl : List Field) (o : Nat) (k2 : List Leaf) (b2 : Bool), flatGo (flatK P d) fl o = some k2 → o ≤ l1.length → o ≤ l2.length → eqL k2 (l1.drop o) (l2.drop o) = some b2 → ∀ w, (Op.eqFields D ⟨x⟩ ⟨y⟩ fl).run P w = .ok b2 w := by
            intro fl
            induction fl with
            | nil =>
              intro o k2 b2 hk ho1 ho2 he w
              simp [flatGo] at hk
              subst hk
              have := eqL_length he
              have e1 : l1.drop o = [] := List.eq_nil_of_length_eq_zero this.1
              have e2 : l2.drop o = [] := List.eq_nil_of_length_eq_zero this.2
              rw [e1, e2] at he
              simp [eqL] at he
              subst he
              simp [Op.eqFields]
            | cons f r ih =>
              intro o k2 b2 hk ho1 ho2 he w
              simp only [flatGo] at hk
              split at hk
              · rename_i hc
                obtain ⟨rfl, hnm⟩ := hc
                cases hkf : flatK P d f.type with
                | none => simp [hkf] at hk
                | some kf =>
                  cases hkr : flatGo (flatK P d) r (f.offset + kf.length) with
                  | none => simp [hkf, hkr] at hk
                  | some kr =>
                    simp [hkf, hkr] at hk
                    subst hk
                    have hlen := eqL_length he
                    simp only [List.length_append, List.length_drop] at hlen
                    have t1 : l1.drop f.offset = (l1.drop f.offset).take kf.length ++ l1.drop (f.offset + kf.length) := by rw [← List.drop_drop, List.take_append_drop]
                    have t2 : l2.drop f.offset = (l2.drop f.offset).take kf.length ++ l2.drop (f.offset + kf.length) := by rw [← List.drop_drop, List.take_append_drop]
                    rw [t1, t2] at he
                    obtain ⟨r1, r2, g1, g2, rfl⟩ := eqL_append (by simp only [List.length_take, List.length_drop]; omega) (by simp only [List.length_take, List.length_drop]; omega) he
                    have p1 : ∀ w, (part f.type ⟨x⟩ f.offset).run P w = .ok (valC P f.type ((x.drop f.offset).take kf.length)) w := part_valC hkf (by have := hx.length; omega)
                    have p2 : ∀ w, (part f.type ⟨y⟩ f.offset).run P w = .ok (valC P f.type ((y.drop f.offset).take kf.length)) w := part_valC hkf (by have := hy.length; omega)
                    have q1 := flatK_sound d hkf (show d ≤ D by omega) ((hx.drop f.offset).take kf.length) ((hy.drop f.offset).take kf.length) (fun v hv => h1x v (List.mem_of_mem_drop (List.mem_of_mem_take hv))) (fun v hv => h1y v (List.mem_of_mem_drop (List.mem_of_mem_take hv))) g1
                    simp only [Op.eqFields, if_pos hnm, Sem.run_bind, p1, p2, q1, Result.andThen_ok]
                    cases r1 with
                    | true => simpa using ih _ _ _ hkr (by omega) (by omega) g2 w
                    | false => simp
              · cases hk
          exact key fs.toList 0 k b hg (Nat.zero_le _) (Nat.zero_le _) (by simpa using hb) w
    · cases h
where
  part_valC {d : Nat} {ft : TypeId} {kf : List Leaf} {x : List Value} {o : Nat} (hk : flatK P d ft = some kf) (hl : o + kf.length ≤ x.length) : ∀ w, (part ft ⟨x⟩ o).run P w = .ok (valC P ft ((x.drop o).take kf.length)) w := by
    intro w
    cases d with
    | zero => simp [flatK] at hk
    | succ d =>
      have scalar : ∀ k, kf = [k] → aggT P ft = some false → (∀ u : List Value, valC P ft u = u.getD 0 undef) → (part ft ⟨x⟩ o).run P w = .ok (valC P ft ((x.drop o).take kf.length)) w := by
        intro k hk ha hv
        subst hk
        have hlt : o < x.length := by simp at hl; omega
        rw [hv]
        simp [part, aggT_run ha, hlt, List.getD]
      unfold flatK at hk
      split at hk
      · rename_i hu
        split at hk
        · cases hk; exact scalar _ rfl (by simp [aggT, hu]) (fun u => by simp [valC, hu])
        · cases hk
      · rename_i hu
        split at hk
        · cases hk; exact scalar _ rfl (by simp [aggT, hu]) (fun u => by simp [valC, hu])
        · cases hk
      · rename_i hu
        split at hk
        · cases hk; exact scalar _ rfl (by simp [aggT, hu]) (fun u => by simp [valC, hu])
        · cases hk
      · rename_i fs hu
        split at hk
        · cases hk
        · cases hg : flatGo (flatK P d) fs.toList 0 with
          | none => simp [hg] at hk
          | some k =>
            simp [hg] at hk
            obtain ⟨hsz, rfl⟩ := hk
            have hv : ∀ u : List Value, valC P ft u = .agg ⟨u⟩ := fun u => by simp [valC, hu]
            rw [hv]
            simp only [part, Sem.run_bind, aggT_run (show aggT P ft = some true by simp [aggT, hu]), Result.andThen_ok, if_true, sizeT_run hsz, Sem.run_pure]
            congr 2
            apply Array.ext'
            simp [List.take_drop]
      · cases hk
end Go.HL
