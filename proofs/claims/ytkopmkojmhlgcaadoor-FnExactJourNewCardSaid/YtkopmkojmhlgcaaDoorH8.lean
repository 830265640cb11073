/- Structs out of parts; look-ups; the translation of all operations that only compute or read, and that the machine does what it says. Conditions: none. -/
import Derived.Test.YtkopmkojmhlgcaaDoorH7
namespace Go.HL
variable {φ : Phi} {e : Env} {H : HH} {n B : Nat} {a : Act} {w : World} {P : Program}

theorem fold_set : ∀ (vs : List Value) (off k : Nat) (A : Array Value), off + k + vs.length ≤ A.size →
    ((vs.zipIdx k).foldl (fun cs (c, j) => cs.setIfInBounds (off + j) c) A).toList = A.toList.take (off + k) ++ vs ++ A.toList.drop (off + k + vs.length)
  | [], off, k, A, _ => by simp
  | v :: vs, off, k, A, h => by
    simp only [List.length_cons] at h
    rw [List.zipIdx_cons, List.foldl_cons, fold_set vs off (k + 1) _ (by simp; omega)]
    simp only [Array.toList_setIfInBounds, List.length_cons]
    have hk : off + k < A.toList.length := by simp; omega
    rw [show off + (k + 1) = off + k + 1 by omega, List.take_set, List.drop_set]
    rw [if_pos (by omega)]
    rw [List.take_succ_eq_append_getElem hk, List.set_append]
    simp only [List.length_take, Nat.min_eq_left (Nat.le_of_lt hk), Nat.lt_irrefl, if_false, Nat.sub_self, List.set_cons_zero, List.append_assoc, List.cons_append]
    rw [show off + k + 1 + vs.length = off + k + (vs.length + 1) by omega]
    simp

theorem VRs.splice {cs vs : List HV} {X V : List Value} (h : VRs φ cs X) (k : VRs φ vs V) (f : Nat) : VRs φ (splice cs f vs) (X.take f ++ V ++ X.drop (f + V.length)) := by
  unfold HL.splice
  rw [k.length]
  exact ((h.take f).append k).append (h.drop _)

theorem splice_one {X V : List Value} (h : ∀ v ∈ X, v.oneCell' = true) (k : ∀ v ∈ V, v.oneCell' = true) (f : Nat) : ∀ v ∈ X.take f ++ V ++ X.drop (f + V.length), v.oneCell' = true := by
  intro v hv
  simp only [List.append_assoc, List.mem_append] at hv
  rcases hv with hv | hv | hv
  · exact h v (List.mem_of_mem_take hv)
  · exact k v hv
  · exact h v (List.mem_of_mem_drop hv)

/-- parts of a build: where each field lies -/
def trParts (places : Nat → Option (Nat × Nat)) : List (Nat × Operand) → Option (List (Nat × Nat × O))
  | [] => some []
  | (i, x) :: r => (places i).bind fun (off, m) => if 0 < m then (trO x).bind fun o => (trParts places r).map ((off, m, o) :: ·) else none

theorem fill_sound (hs : FS φ e H n B a w) {places : Nat → Option (Nat × Nat)} : ∀ {ps : List (Nat × Operand)} {qs : List (Nat × Nat × O)}, trParts places ps = some qs → ∀ {cs cs' : List HV} {A : Array Value}, VRs φ cs A.toList → (∀ v ∈ A.toList, v.oneCell' = true) → mkParts e cs qs = some cs' →
    ∃ B, Instr.fill places A (ps.map fun (i, x) => (i, a.eval x)) = some B ∧ VRs φ cs' B.toList ∧ ∀ v ∈ B.toList, v.oneCell' = true
  | [], qs, h, cs, cs', A, hA, h1, hm => by
    simp [trParts] at h; subst h
    simp [mkParts] at hm; subst hm
    exact ⟨A, rfl, hA, h1⟩
  | (i, x) :: r, qs, h, cs, cs', A, hA, h1, hm => by
    simp only [trParts] at h
    cases hp : places i with
    | none => simp [hp] at h
    | some q =>
      obtain ⟨off, m⟩ := q
      simp only [hp, Option.bind_some] at h
      split at h
      · rename_i hm0
        cases ho : trO x with
        | none => simp [ho] at h
        | some o =>
          cases hr : trParts places r with
          | none => simp [ho, hr] at h
          | some qr =>
            simp [ho, hr] at h
            subst h
            simp only [mkParts] at hm
            cases hv : e.v o with
            | none => simp [hv] at hm
            | some v =>
              simp only [hv, Option.bind_some] at hm
              split at hm
              · rename_i hc
                obtain ⟨hlen, hle⟩ := hc
                have hvr := trO_v ho hs hv
                obtain ⟨hcells, hone⟩ := hvr.cells (.inl (by intro h0; rw [h0] at hlen; simp at hlen; omega))
                have hsz : (a.eval x).cells.size = m := by have := hcells.length; simp at this; omega
                have hAs : A.size = cs.length := by have := hA.length; simp at this; omega
                have hfold := fold_set (a.eval x).cells.toList off 0 A (by simp; omega)
                rw [Nat.add_zero, ← Array.toList_zipIdx, Array.foldl_toList] at hfold
                obtain ⟨B, hB, h2, h3⟩ := fill_sound hs hr (A := (a.eval x).cells.zipIdx.foldl (fun cs (c, j) => cs.setIfInBounds (off + j) c) A) (by rw [hfold]; exact hA.splice hcells off) (by rw [hfold]; exact splice_one h1 hone off) hm
                refine ⟨B, ?_, h2, h3⟩
                simp only [List.map_cons, Instr.fill, hp]
                rw [if_neg (by simp [hsz]; omega)]
                exact hB
              · cases hm
      · cases h

def zeroC (P : Program) (t : TypeId) : Option (List HV) := ((P.info? t).bind (·.zero)).bind fun z => constL z.cells.toList
def placesT (P : Program) (t : TypeId) : Option (Nat → Option (Nat × Nat)) :=
  match P.underlying t with
  | some (.struct fs) => (fs.toList.mapM (fun f => (P.info? f.type).map fun i => (f.offset, i.size))).map fun l i => l.toArray[i]?
  | _ => none

theorem build_sound (hs : FS φ e H n B a w) {t : TypeId} {parts : Array (Nat × Operand)} {zero cs : List HV} {places : Nat → Option (Nat × Nat)} {qs : List (Nat × Nat × O)}
    (hz : zeroC P t = some zero) (hp : placesT P t = some places) (hq : trParts places parts.toList = some qs) (hm : mkParts e zero qs = some cs) :
    ∃ u, (Instr.build t (parts.map fun (i, x) => (i, a.eval x))).run P w = .ok u w ∧ VR φ (.agg cs) u := by
  unfold zeroC at hz
  cases hi : P.info? t with
  | none => simp [hi] at hz
  | some it =>
    cases hzz : it.zero with
    | none => simp [hi, hzz] at hz
    | some z =>
      simp [hi, hzz] at hz
      unfold placesT at hp
      split at hp
      · rename_i fs hu
        cases hpl : fs.toList.mapM (fun f => (P.info? f.type).map fun i => (f.offset, i.size)) with
        | none => simp [hpl] at hp
        | some l =>
          simp [hpl] at hp
          subst hp
          have hzs := constL_sound hz φ
          obtain ⟨B, hB, h1, h2⟩ := fill_sound hs hq hzs.1 hzs.2 hm
          refine ⟨.agg B, run_build w t _ B ?_, .agg _ _ h1 h2⟩
          simp only [Program.built, hi, hu, hzz, hpl]
          simpa using hB
      · cases hp

/-! ### look-ups -/
theorem lookup_sound (hs : Sim φ w H) {mt kt et : TypeId} {ks : List Leaf} {ok : Bool} {zero v m k : HV} {mv kv z : Value} {it : TypeInfo} (hm : VR φ m mv) (hk : VR φ k kv) (hu : P.underlying mt = some (.map kt et)) (hf : flatK P 9 kt = some ks)
    (hi : P.info? et = some it) (hz : it.zero = some z) (hzero : constV z = some zero) (hkey : ∃ l, kv = valC P kt l ∧ l.length = ks.length) (hv : lookV H ok zero (agK P kt) ks m k = some v) :
    ∃ u, (Instr.lookup mt mv kv ok).run P w = .ok u w ∧ VR φ v u := by
  have hzr : VR φ zero z := constV_sound hzero φ
  obtain ⟨l, rfl, hll⟩ := hkey
  have hck : ∀ em, (Instr.checkKey em 10000 kt (valC P kt l)).run P w = .ok () w := fun em => checkKey_ok hf (show 9 ≤ 10000 by omega) hll.symm w
  unfold lookV at hv
  split at hv
  · cases hm
    cases hv
    have hfk := findKey_sound hf hk .nil (r := none) (by simp [findE]) w
    obtain ⟨q, hq, hf⟩ := hfk
    cases hf
    cases ok with
    | true => exact ⟨.tuple #[z, .bool false], by simp [Instr.lookup, run_underlying hu, hck, hq, zeroValue, typeInfo, hi, hz], .tup _ [z, .bool false] (.cons _ _ _ _ hzr (.cons _ _ _ _ (.bool _) .nil))⟩
    | false => exact ⟨z, by simp [Instr.lookup, run_underlying hu, hck, hq, zeroValue, typeInfo, hi, hz], hzr⟩
  · rename_i id
    split at hv
    · rename_i es hg
      cases hm with
      | map _ p hp =>
        cases hfe : findE (agK P kt) ks k es with
        | none => simp [hfe] at hv
        | some r =>
          simp only [hfe, Option.map_some, Option.some.injEq] at hv
          obtain ⟨ents, h1, h2, h3⟩ := hs.ob id p _ hp hg
          have he : EntR φ es ents.toList := EntR.of (by simpa using h2) (fun i k v hi => by obtain ⟨m, a, b, c, _⟩ := h3 i k v hi; exact ⟨m, by simpa using a, b, c⟩)
          obtain ⟨q, hq, hfd⟩ := findKey_sound hf hk he hfe w
          have hget : (getObj p.blk).run P w = .ok (.map ents es.length) w := by simp [getObj, Sem.run, h1]
          cases r with
          | none =>
            cases hfd
            simp only at hv
            cases ok with
            | true => subst hv; exact ⟨.tuple #[z, .bool false], by simp [Instr.lookup, run_underlying hu, hget, hck, hq, zeroValue, typeInfo, hi, hz], .tup _ [z, .bool false] (.cons _ _ _ _ hzr (.cons _ _ _ _ (.bool _) .nil))⟩
            | false => subst hv; exact ⟨z, by simp [Instr.lookup, run_underlying hu, hget, hck, hq, zeroValue, typeInfo, hi, hz], hzr⟩
          | some x =>
            obtain ⟨j, u, k', rfl, _, hxu, _⟩ := hfd
            simp only at hv
            cases ok with
            | true => subst hv; exact ⟨.tuple #[u, .bool true], by simp [Instr.lookup, run_underlying hu, hget, hck, hq], .tup _ [u, .bool true] (.cons _ _ _ _ hxu (.cons _ _ _ _ (.bool _) .nil))⟩
            | false => subst hv; exact ⟨u, by simp [Instr.lookup, run_underlying hu, hget, hck, hq], hxu⟩
    · cases hv
  · cases hv

/-! ### the greater, the less -/
theorem mx_sound {isMax : Bool} : ∀ {l : List HV} {x v : HV} {u : Value} {us : List Value}, VR φ x u → VRs φ l us → mxL isMax x l = some v → ∃ y, (us.foldlM (if isMax then Builtin.max2 else Builtin.min2) u).run P w = .ok y w ∧ VR φ v y
  | [], x, v, u, us, hx, hl, h => by
    cases hl
    simp [mxL] at h; subst h
    exact ⟨u, by simp, hx⟩
  | b :: r, x, v, u, us, hx, hl, h => by
    cases hl with
    | cons _ z _ zs hb hr =>
      simp only [mxL] at h
      cases hc : mxV isMax x b with
      | none => simp [hc] at h
      | some c =>
        simp only [hc, Option.bind_some] at h
        unfold mxV at hc
        split at hc
        · split at hc
          · rename_i hk
            subst hk
            cases hc; cases hx; cases hb
            obtain ⟨y, hy, hv⟩ := mx_sound (isMax := isMax) (VR.int _ _) hr h
            refine ⟨y, ?_, hv⟩
            cases isMax <;> simp [List.foldlM_cons, Builtin.max2, Builtin.min2] at hy ⊢ <;> exact hy
          · cases hc
        · cases hc
end Go.HL
