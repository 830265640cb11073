/- Maps: looking up, and what a store finds. Conditions: none. -/
import Derived.Test.YtkopmkojmhlgcaaDoorH6
namespace Go.HL
variable {φ : Phi} {e : Env} {H : HH} {n B : Nat} {a : Act} {w : World} {P : Program}

theorem eqS_true {k : Leaf} {x y : HV} (h : eqS k x y = some true) : x = y := by
  unfold eqS at h
  split at h
  · split at h
    · simp at h; simp_all
    · cases h
  · simp at h; simp_all
  · simp at h; simp_all
  · cases h
theorem eqL_true : ∀ {ks : List Leaf} {x y : List HV}, eqL ks x y = some true → x = y
  | [], [], [], _ => rfl
  | k :: ks, a :: x, b :: y, h => by
    simp only [eqL] at h
    cases hs : eqS k a b with
    | none => simp [hs] at h
    | some q =>
      cases ht : eqL ks x y with
      | none => simp [hs, ht] at h
      | some z =>
        simp [hs, ht] at h
        obtain ⟨rfl, rfl⟩ := h
        rw [eqS_true hs, eqL_true ht]
  | [], [], _ :: _, h => by simp [eqL] at h
  | [], _ :: _, _, h => by simp [eqL] at h
  | _ :: _, [], _, h => by simp [eqL] at h
  | _ :: _, _ :: _, [], h => by simp [eqL] at h
theorem eqV_eq {ag : Bool} {ks : List Leaf} {x y : HV} (h : eqV ag ks x y = some true) : x = y := by
  cases ag with
  | true =>
    unfold eqV at h
    split at h <;> try (simp_all; done)
    rw [eqL_true h]
  | false =>
    rw [eqV_false] at h
    have := eqL_true h
    simpa using this

inductive EntR (φ : Phi) : List (HV × HV) → List MapEntry → Prop where
  | nil : EntR φ [] []
  | cons (k v m r s) : VR φ k m.key → VR φ v m.val → EntR φ r s → EntR φ ((k, v) :: r) (m :: s)

theorem EntR.of : ∀ {es : List (HV × HV)} {ents : List MapEntry}, ents.length = es.length → (∀ (i : Nat) (k v : HV), es[i]? = some (k, v) → ∃ m : MapEntry, ents[i]? = some m ∧ VR φ k m.key ∧ VR φ v m.val) → EntR φ es ents
  | [], [], _, _ => .nil
  | (k, v) :: es, m :: ents, hl, h => by
    obtain ⟨m', h1, h2, h3⟩ := h 0 k v (by simp)
    simp at h1; subst h1
    exact .cons _ _ _ _ _ h2 h3 (EntR.of (by simpa using hl) fun i k v hi => by simpa using h (i + 1) k v (by simpa using hi))
  | [], _ :: _, hl, _ => by simp at hl
  | _ :: _, [], hl, _ => by simp at hl

/-- what a search finds: nothing, or a place, its value -/
def First (ag : Bool) (ks : List Leaf) (k : HV) : List (HV × HV) → Nat → Prop
  | [], _ => False
  | (k', _) :: _, 0 => eqV ag ks k k' = some true
  | (k', _) :: r, j + 1 => eqV ag ks k k' = some false ∧ First ag ks k r j
def Found (φ : Phi) (ag : Bool) (ks : List Leaf) (k : HV) (es : List (HV × HV)) (r : Option HV) (i : Nat) (q : Option (Nat × Value)) : Prop :=
  match r with
  | none => q = none
  | some v => ∃ j u k', q = some (i + j, u) ∧ es[j]? = some (k', v) ∧ VR φ v u ∧ First ag ks k es j

theorem findAsking_sound {kt : TypeId} {ks : List Leaf} (hk : flatK P 9 kt = some ks) {k : HV} {kv : Value} (hkv : VR φ k kv) : ∀ {es : List (HV × HV)} {ents : List MapEntry}, EntR φ es ents → ∀ {r : Option HV}, findE (agK P kt) ks k es = some r → ∀ (i : Nat) (w : World),
    ∃ q, (Instr.findAsking kt kv ents i).run P w = .ok q w ∧ Found φ (agK P kt) ks k es r i q
  | _, _, .nil, r, h, i, w => by
    simp [findE] at h
    subst h
    exact ⟨none, by simp [Instr.findAsking], rfl⟩
  | _, _, .cons k' v m es ents h1 h2 h3, r, h, i, w => by
    simp only [findE] at h
    cases hb : eqV (agK P kt) ks k k' with
    | none => simp [hb] at h
    | some b =>
      simp only [hb, Option.bind_some] at h
      have he := eqV_run hkv h1 hk (show 9 ≤ 10000 by omega) hb w
      cases b with
      | true =>
        simp at h
        subst h
        refine ⟨some (i, m.val), by simp [Instr.findAsking, Op.equal, Op.maxDepth, he], 0, m.val, k', by simp, by simp, h2, hb⟩
      | false =>
        simp only [Bool.false_eq_true, if_false] at h
        obtain ⟨q, hq, hf⟩ := findAsking_sound hk hkv h3 h (i + 1) w
        refine ⟨q, by simp [Instr.findAsking, Op.equal, Op.maxDepth, he, hq], ?_⟩
        cases r with
        | none => exact hf
        | some u =>
          obtain ⟨j, u', k'', e1, e2, e3, e4⟩ := hf
          exact ⟨j + 1, u', k'', by rw [e1]; congr 2; omega, by simpa using e2, e3, hb, e4⟩

theorem findNow_sound {d : TypeDesc} (hd : d = .bool ∨ (∃ q, d = .int q) ∨ d = .string) {ks : List Leaf} (hks : ks = [.b] ∧ d = .bool ∨ ks = [.i] ∧ (∃ q, d = .int q) ∨ ks = [.s] ∧ d = .string) {k : HV} {kv : Value} (hkv : VR φ k kv) :
    ∀ {es : List (HV × HV)} {ents : List MapEntry}, EntR φ es ents → ∀ {r : Option HV}, findE false ks k es = some r → ∀ (i : Nat), ∃ q, Instr.findNow d kv ents i = some q ∧ Found φ false ks k es r i q
  | _, _, .nil, r, h, i => by
    simp [findE] at h
    subst h
    exact ⟨none, by simp [Instr.findNow], rfl⟩
  | _, _, .cons k' v m es ents h1 h2 h3, r, h, i => by
    simp only [findE, eqV_false] at h
    cases hb : eqL ks [k] [k'] with
    | none => simp [hb] at h
    | some b =>
      simp only [hb, Option.bind_some] at h
      have hs : Instr.sameNow d kv m.key = some b := by
        rcases hks with ⟨rfl, rfl⟩ | ⟨rfl, q, rfl⟩ | ⟨rfl, rfl⟩
        · cases he : eqS .b k k' with
          | none => simp [eqL, he] at hb
          | some b' =>
            simp [eqL, he] at hb
            subst hb
            unfold eqS at he
            split at he <;> try (simp_all; done)
            cases he
            generalize m.key = y at h1
            cases h1; cases hkv
            simp [Instr.sameNow]
        · cases he : eqS .i k k' with
          | none => simp [eqL, he] at hb
          | some b' =>
            simp [eqL, he] at hb
            subst hb
            unfold eqS at he
            split at he <;> try (simp_all; done)
            split at he <;> cases he
            generalize m.key = y at h1
            cases h1; cases hkv
            simp [Instr.sameNow, *]
        · cases he : eqS .s k k' with
          | none => simp [eqL, he] at hb
          | some b' =>
            simp [eqL, he] at hb
            subst hb
            unfold eqS at he
            split at he <;> try (simp_all; done)
            cases he
            generalize m.key = y at h1
            rw [str_eq h1, str_eq hkv]
            simp only [Instr.sameNow]
            congr 1
            rw [beq_toListBytes, ByteArray.toList_eq, ByteArray.toList_eq]
      cases b with
      | true =>
        simp at h
        subst h
        exact ⟨some (i, m.val), by simp [Instr.findNow, hs], 0, m.val, k', by simp, by simp, h2, hb⟩
      | false =>
        simp only [Bool.false_eq_true, if_false] at h
        obtain ⟨q, hq, hf⟩ := findNow_sound hd hks hkv h3 h (i + 1)
        refine ⟨q, by simp [Instr.findNow, hs, hq], ?_⟩
        cases r with
        | none => exact hf
        | some u =>
          obtain ⟨j, u', k'', e1, e2, e3, e4⟩ := hf
          exact ⟨j + 1, u', k'', by rw [e1]; congr 2; omega, by simpa using e2, e3, hb, e4⟩

theorem findKey_sound {kt : TypeId} {ks : List Leaf} (hk : flatK P 9 kt = some ks) {k : HV} {kv : Value} (hkv : VR φ k kv) {es : List (HV × HV)} {ents : List MapEntry} (he : EntR φ es ents) {r : Option HV} (h : findE (agK P kt) ks k es = some r) (w : World) :
    ∃ q, (Instr.findKey kt kv ents).run P w = .ok q w ∧ Found φ (agK P kt) ks k es r 0 q := by
  have hd : ∃ d, P.underlying kt = some d ∧ ((d = .bool ∧ ks = [.b] ∨ (∃ q, d = .int q) ∧ ks = [.i] ∨ d = .string ∧ ks = [.s]) ∨ ∃ fs, d = .struct fs) := by
    simp only [flatK] at hk
    split at hk
    · rename_i hu; split at hk
      · cases hk; exact ⟨_, hu, .inl (.inl ⟨rfl, rfl⟩)⟩
      · cases hk
    · rename_i q hu; split at hk
      · cases hk; exact ⟨_, hu, .inl (.inr (.inl ⟨⟨_, rfl⟩, rfl⟩))⟩
      · cases hk
    · rename_i hu; split at hk
      · cases hk; exact ⟨_, hu, .inl (.inr (.inr ⟨rfl, rfl⟩))⟩
      · cases hk
    · rename_i fs hu; exact ⟨_, hu, .inr ⟨fs, rfl⟩⟩
    · cases hk
  obtain ⟨d, hu, hd⟩ := hd
  rcases hd with hd | ⟨fs, rfl⟩
  · have hag : agK P kt = false := by
      unfold agK
      rw [hu]
      rcases hd with ⟨rfl, _⟩ | ⟨⟨q, rfl⟩, _⟩ | ⟨rfl, _⟩ <;> rfl
    rw [hag] at h
    obtain ⟨q, hq, hf⟩ := findNow_sound (d := d) (by rcases hd with ⟨h, _⟩ | ⟨h, _⟩ | ⟨h, _⟩ <;> simp [h]) (by rcases hd with ⟨h, h'⟩ | ⟨h, h'⟩ | ⟨h, h'⟩ <;> simp [h, h']) hkv he h 0
    exact ⟨q, by simp [Instr.findKey, run_underlying hu, hq], by rw [hag]; exact hf⟩
  · cases he with
    | nil =>
      simp [findE] at h
      subst h
      exact ⟨none, by simp [Instr.findKey, run_underlying hu, Instr.findNow], rfl⟩
    | cons k' v m r' s h1 h2 h3 =>
      obtain ⟨q, hq, hf⟩ := findAsking_sound hk hkv (.cons k' v m r' s h1 h2 h3) h 0 w
      refine ⟨q, ?_, hf⟩
      simp only [Instr.findKey, Sem.run_bind, run_underlying hu, Result.andThen_ok, Instr.findNow, Instr.sameNow, hq]

/-- a key that holds no interface is taken as it is -/
theorem checkKey_ok {em : Bool} {kt : TypeId} {ks : List Leaf} : ∀ {d D : Nat}, flatK P d kt = some ks → d ≤ D → ∀ {l : List Value}, ks.length = l.length → ∀ w, (Instr.checkKey em D kt (valC P kt l)).run P w = .ok () w := by
  intro d
  induction d generalizing kt ks with
  | zero => intro D h; simp [flatK] at h
  | succ d ih =>
    intro D h hD l hl w
    obtain ⟨D, rfl⟩ : ∃ m, D = m + 1 := ⟨D - 1, by omega⟩
    simp only [flatK] at h
    split at h
    · rename_i hu; simp [Instr.checkKey, run_underlying hu]
    · rename_i q hu; simp [Instr.checkKey, run_underlying hu]
    · rename_i hu; simp [Instr.checkKey, run_underlying hu]
    · rename_i fs hu
      split at h
      · cases h
      · cases hg : flatGo (flatK P d) fs.toList 0 with
        | none => simp [hg] at h
        | some k =>
          simp [hg] at h
          obtain ⟨_, rfl⟩ := h
          have hv : valC P kt l = .agg ⟨l⟩ := by simp [valC, hu]
          rw [hv]
          simp only [Instr.checkKey, Sem.run_bind, run_underlying hu, Result.andThen_ok]
          rw [← Array.forIn_toList]
          have key : ∀ (fl : List Field) (o : Nat) (k2 : List Leaf), flatGo (flatK P d) fl o = some k2 → o + k2.length ≤ l.length → ∀ w, (forIn fl PUnit.unit (fun f (_ : PUnit) => (do
              if f.name ≠ "_" then do
                let x ← part f.type ⟨l⟩ f.offset
                Instr.checkKey em D f.type x
                pure (ForInStep.yield PUnit.unit)
              else pure (ForInStep.yield PUnit.unit) : Sem (ForInStep PUnit)))).run P w = .ok PUnit.unit w := by
            intro fl
            induction fl with
            | nil => intro o k2 _ _ w; simp
            | cons f r ihf =>
              intro o k2 hk hle w
              simp only [flatGo] at hk
              split at hk
              · rename_i hc
                obtain ⟨rfl, hnm⟩ := hc
                cases hkf : flatK P d f.type with
                | none => simp [hkf] at hk
                | some kf =>
                  cases hkr : flatGo (flatK P d) r (f.offset + kf.length) with
                  | none => simp [hkf, hkr] at hk
                  | some kr =>
                    simp [hkf, hkr] at hk
                    subst hk
                    simp only [List.length_append] at hle
                    have p1 := flatK_sound.part_valC (P := P) 0 d hkf (x := l) (o := f.offset) (by omega) w
                    have p2 := ih hkf (show d ≤ D by omega) (l := (l.drop f.offset).take kf.length) (by simp; omega) w
                    simp only [List.forIn_cons, Sem.run_bind, if_pos hnm, p1, p2, Result.andThen_ok, Sem.run_pure]
                    exact ihf _ _ hkr (by omega) w
              · cases hk
          have := key fs.toList 0 k hg (by omega) w
          rw [this]
          rfl
    · cases h
end Go.HL
