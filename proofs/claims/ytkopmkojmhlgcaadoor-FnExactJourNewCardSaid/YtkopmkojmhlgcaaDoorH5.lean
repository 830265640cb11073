/- Two-sided operations, conversions, lengths, cuts, look-ups, structs. Conditions: none. -/
import Derived.Test.YtkopmkojmhlgcaaDoorH4
import Derived.Laws.BytesString
import Derived.Laws.Append
namespace Go.HL
variable {φ : Phi} {e : Env} {H : HH} {n B : Nat} {a : Act} {w : World} {P : Program}

theorem guard_none (op : BinOp) (t : TypeId) (xo yo : Operand) {x y : Value} (h : x.oneCell' = true) (hi : ∀ t v, x ≠ .iface t v) (hn : x ≠ .nilIface) (w : World) : (eqGuard op t xo yo x y).run P w = .ok () w := by
  unfold eqGuard
  cases op <;> cases x <;> cases y <;> simp_all [Value.oneCell']

theorem VR.plain {x : HV} {u : Value} (h : VR φ x u) (h1 : x.one = true) : u.oneCell' = true ∧ (∀ t v, u ≠ .iface t v) ∧ u ≠ .nilIface := by
  cases h <;> simp_all [HV.one, Value.oneCell']

theorem bin_sound {op : BinOp} {t : TypeId} {xo yo : Operand} {x y v : HV} {u z : Value} (hx : VR φ x u) (hy : VR φ y z) (hv : binV op x y = some v) :
    ∃ r, (do eqGuard op t xo yo u z; binOp op t u z : Sem Value).run P w = .ok r w ∧ VR φ v r := by
  unfold binV at hv
  split at hv
  · rename_i k p k' q
    cases hx; cases hy
    rw [Sem.run_bind, guard_none op t xo yo rfl (by simp) (by simp) w, Result.andThen_ok]
    cases op <;> simp only at hv <;> (try (split at hv)) <;> (try (cases hv; done)) <;> cases hv <;> (try rename_i hk) <;> (try (obtain ⟨hk, hq⟩ := hk)) <;> (try subst hk) <;>
      refine ⟨_, ?_, by constructor⟩ <;>
      simp [binOp, Op.intArith, Op.intCmp, Op.intBits, Op.intDiv, Op.shift, *] <;> omega
  · rename_i p q
    have e1 := str_eq hx
    have e2 := str_eq hy
    subst e1 e2
    rw [Sem.run_bind, guard_none op t xo yo rfl (by simp) (by simp) w, Result.andThen_ok]
    have htl : ∀ l : List UInt8, (ByteArray.mk l.toArray).toList = l := fun l => by rw [ByteArray.toList_eq]
    cases op <;> simp only at hv <;> (try (split at hv)) <;> (try (cases hv; done)) <;> cases hv
    · rename_i hle
      refine ⟨.string ⟨(p ++ q).toArray⟩, ?_, str_mk _⟩
      have h1 : ¬ (((p.length + q.length : Nat) : Int) > IntKind.i64.max) := by
        have : IntKind.i64.max = 9223372036854775807 := by decide
        unfold i64max at hle
        omega
      have h2 : (ByteArray.mk p.toArray).size = p.length := by simp [ByteArray.size]
      have h3 : (ByteArray.mk q.toArray).size = q.length := by simp [ByteArray.size]
      have h4 : (ByteArray.mk p.toArray ++ ByteArray.mk q.toArray) = ByteArray.mk (p ++ q).toArray := by
        apply ByteArray.ext
        simp
      simp only [binOp, Op.stringOp, h2, h3, if_neg h1, Sem.run_pure, h4]
    all_goals refine ⟨_, ?_, by constructor⟩
    all_goals simp [binOp, Op.stringOp, htl, ltB]
  · cases hv

/-- structs are compared as aggregates -/
def agK (P : Program) (t : TypeId) : Bool := match P.underlying t with | some (.struct _) => true | _ => false

theorem eqV_run {t : TypeId} {ks : List Leaf} {x y : HV} {u z : Value} {r : Bool} {d : Nat} (hx : VR φ x u) (hy : VR φ y z) (hk : flatK P d t = some ks) {D : Nat} (hD : d ≤ D) (hr : eqV (agK P t) ks x y = some r) (w : World) :
    (Op.equalIn D t u z).run P w = .ok r w := by
  cases hag : agK P t with
  | true =>
    rw [hag] at hr
    unfold eqV at hr
    split at hr <;> try (simp_all; done)
    rename_i a b _ _
    cases hx with
    | agg _ x hl ho =>
      cases hy with
      | agg _ y hl' ho' =>
        have hv : ∀ l : List Value, valC P t l = .agg ⟨l⟩ := by
          intro l
          unfold agK at hag
          unfold valC
          split at hag
          · rename_i fs hu; simp [hu]
          · cases hag
        have := flatK_sound d hk hD hl hl' ho ho' hr w
        rwa [hv, hv] at this
  | false =>
    rw [hag, eqV_false] at hr
    have hv : ∀ l : List Value, valC P t l = l.getD 0 undef := by
      intro l
      unfold agK at hag
      unfold valC
      split at hag
      · cases hag
      · rename_i h; split
        · rename_i fs hu; exact absurd hu (h fs)
        · rfl
    have hone : ∀ {k : Leaf} {p q : HV} {b : Bool}, eqS k p q = some b → p.one = true ∧ q.one = true := by
      intro k p q b h
      unfold eqS at h
      split at h <;> simp_all [HV.one]
    have hks := eqL_length hr
    match ks, hks.1, hr with
    | [k], _, hr =>
      cases hs : eqS k x y with
      | none => simp [eqL, hs] at hr
      | some b =>
        have h1 := hone hs
        have := flatK_sound d hk hD (VRs.single hx) (VRs.single hy) (by simpa using (hx.plain h1.1).1) (by simpa using (hy.plain h1.2).1) hr w
        rw [hv, hv] at this
        simpa using this

theorem eq_sound {t : TypeId} {xo yo : Operand} {ks : List Leaf} {x y : HV} {u z : Value} {r neg : Bool} (hx : VR φ x u) (hy : VR φ y z) (hk : flatK P 9 t = some ks) (hg : P.eqGuardType P.depth t = false)
    (ht : agK P t = true ∨ P.underlying t = some .bool) (hr : eqV (agK P t) ks x y = some r) :
    (do eqGuard (if neg then .neq else .eql) t xo yo u z; binOp (if neg then .neq else .eql) t u z : Sem Value).run P w = .ok (.bool (r != neg)) w := by
  have he := eqV_run hx hy hk (show 9 ≤ 10000 by omega) hr
  have hshape : (∃ p q, u = .agg p ∧ z = .agg q) ∨ (∃ p q, u = .bool p ∧ z = .bool q) := by
    rcases ht with ht | ht
    · rw [ht] at hr
      unfold eqV at hr
      split at hr <;> try (simp_all; done)
      cases hx; cases hy
      exact .inl ⟨_, _, rfl, rfl⟩
    · have hag : agK P t = false := by simp [agK, ht]
      have hkk : ks = [.b] := by
        simp only [flatK, ht] at hk
        split at hk
        · cases hk; rfl
        · cases hk
      subst hkk
      rw [hag, eqV_false] at hr
      cases hs : eqS .b x y with
      | none => simp [eqL, hs] at hr
      | some b =>
        unfold eqS at hs
        split at hs <;> try (simp_all; done)
        cases hx; cases hy
        exact .inr ⟨_, _, rfl, rfl⟩
  rcases hshape with ⟨p, q, rfl, rfl⟩ | ⟨p, q, rfl, rfl⟩
  · cases neg
    · simp only [Bool.false_eq_true, if_false, Sem.run_bind, run_eqGuard_agg w .eql t xo yo p q hg, Result.andThen_ok, run_eql_struct, he w]
      simp
    · simp only [if_true, Sem.run_bind, run_eqGuard_agg w .neq t xo yo p q hg, Result.andThen_ok, run_neq_struct, he w]
      simp
  · cases neg
    · simp only [Bool.false_eq_true, if_false, Sem.run_bind, guard_none .eql t xo yo (x := .bool p) (y := .bool q) rfl (by simp) (by simp), Result.andThen_ok]
      simp [binOp, Op.equal, Op.maxDepth, he w]
    · simp only [if_true, Sem.run_bind, guard_none .neq t xo yo (x := .bool p) (y := .bool q) rfl (by simp) (by simp), Result.andThen_ok]
      simp [binOp, Op.equal, Op.maxDepth, he w]

/-- a comparison of a slice with nil -/
theorem run_equalIn_slice_nil (d : Nat) {t et : TypeId} (hu : P.underlying t = some (.slice et)) (b : Option Addr) (l c : Nat) (w : World) : (Op.equalIn (d + 1) t (.slice b l c) (.slice none 0 0)).run P w = .ok b.isNone w := by
  cases b <;> simp [Op.equalIn, run_underlying hu]

theorem eqnil_sound {t et : TypeId} {xo yo : Operand} {x : HV} {u : Value} {r neg : Bool} (hx : VR φ x u) (hu : P.underlying t = some (.slice et)) (hs : ∀ i f, x ≠ .fn i f []) (hr : nilV x = some r)
    (hsl : (∃ b l c, u = .slice b l c)) :
    (do eqGuard (if neg then .neq else .eql) t xo yo u (.slice none 0 0); binOp (if neg then .neq else .eql) t u (.slice none 0 0) : Sem Value).run P w = .ok (.bool (r != neg)) w := by
  obtain ⟨b, l, c, rfl⟩ := hsl
  have he := run_equalIn_slice_nil (P := P) 9999 hu b l c w
  have hb : r = b.isNone := by
    cases hx <;> simp [nilV] at hr <;> subst hr <;> rfl
  subst hb
  cases neg
  · simp only [Bool.false_eq_true, if_false, Sem.run_bind, guard_none .eql t xo yo (x := .slice b l c) (y := .slice none 0 0) rfl (by simp) (by simp), Result.andThen_ok]
    simp only [binOp, Op.equal, Op.maxDepth, Sem.run_bind, he, Result.andThen_ok, Sem.run_pure]
    simp
  · simp only [if_true, Sem.run_bind, guard_none .neq t xo yo (x := .slice b l c) (y := .slice none 0 0) rfl (by simp) (by simp), Result.andThen_ok]
    simp only [binOp, Op.equal, Op.maxDepth, Sem.run_bind, he, Result.andThen_ok, Sem.run_pure]
    simp

/-! ### conversions -/
/-- the cells that a slice holds -/
theorem elems_cells (hs : Sim φ w H) {v : HV} {sz : Nat} {es : List (List HV)} {b : Option Addr} {ln cap : Nat} (hv : VR φ v (.slice b ln cap)) (he : H.elems sz v = some es) :
    es.length = ln ∧ (∀ c ∈ es, c.length = sz) ∧ ∃ x : List Value, VRs φ es.flatten x ∧ x.length = ln * sz ∧ (∀ u ∈ x, u.oneCell' = true) ∧ (b = none → ln = 0) ∧
      ∀ a, b = some a → ∀ j u, x[j]? = some u → w.cell? (a.add j) = some u := by
  cases hv with
  | nils =>
    simp [HH.elems] at he
    subst he
    exact ⟨rfl, by simp, [], .nil, by simp, by simp, fun _ => rfl, by simp⟩
  | slice id off _ room ex p o _ hp ho hroom hex hlen htot =>
    simp only [HH.elems] at he
    split at he
    · rename_i ro s es' hg
      split at he
      · rename_i hc
        obtain ⟨rfl, hle⟩ := hc
        cases he
        obtain ⟨h1, h2, h3, h4, c, ty, fr, h5, h6, h7, h8, h9⟩ := hs.ob id p _ hp hg
        have hl : ((es'.drop off).take ln).length = ln := by simp; omega
        refine ⟨hl, fun c hc => h4 c (List.mem_of_mem_drop (List.mem_of_mem_take hc)), (c.toList.drop (p.off + off * s)).take (ln * s), ?_, ?_, ?_, by simp, ?_⟩
        · have hd := (h7.drop (off * s)).take (ln * s)
          have e1 : (es'.flatten.drop (off * s)).take (ln * s) = ((es'.drop off).take ln).flatten := flat_sub h4 hle
          rw [e1, List.drop_take, List.take_take, List.drop_drop] at hd
          rwa [Nat.min_eq_left (by rw [← Nat.sub_mul]; exact Nat.mul_le_mul_right _ (by omega))] at hd
        · have : off * s + ln * s ≤ es'.length * s := by rw [← Nat.add_mul]; exact Nat.mul_le_mul_right _ hle
          have := Nat.mul_le_mul_right s h3
          simp only [List.length_take, List.length_drop, Array.length_toList]
          omega
        · intro u hu
          refine h8 u ?_
          have : (c.toList.drop (p.off + off * s)).take (ln * s) = (((c.toList.drop p.off).take (es'.length * s)).drop (off * s)).take (ln * s) := by
            rw [List.drop_take, List.take_take, List.drop_drop, Nat.min_eq_left (by rw [← Nat.sub_mul]; exact Nat.mul_le_mul_right _ (by omega))]
          rw [this] at hu
          exact List.mem_of_mem_drop (List.mem_of_mem_take hu)
        · intro a ha j u hj
          cases ha
          rw [List.getElem?_take] at hj
          split at hj
          · rename_i hlt
            have hcap : cap ≠ 0 := by
              intro h0
              have : ln = 0 := by omega
              subst this
              simp at hlt
            have hoo := ho.resolve_right hcap
            rw [add_mk, World.cell?, h5, hoo, h1]
            rw [List.getElem?_drop] at hj
            simpa [Nat.add_assoc] using hj
          · cases hj
      · cases he
    · cases he
where
  flat_sub {sz : Nat} : ∀ {es : List (List HV)} {off ln : Nat}, (∀ c ∈ es, c.length = sz) → off + ln ≤ es.length → (es.flatten.drop (off * sz)).take (ln * sz) = ((es.drop off).take ln).flatten
    | es, 0, 0, _, _ => by simp
    | [], 0, ln + 1, _, h => by simp at h
    | c :: es, 0, ln + 1, hc, h => by
      have ih := flat_sub (off := 0) (ln := ln) (fun x hx => hc x (List.mem_cons_of_mem _ hx)) (by simpa using h)
      simp only [Nat.zero_mul, List.drop_zero, List.flatten_cons, List.take_succ_cons] at ih ⊢
      rw [Nat.add_mul, Nat.one_mul, Nat.add_comm, ← hc c (by simp), List.take_append, List.take_of_length_le (by omega), hc c (by simp)]
      simp [ih]
    | [], off + 1, ln, _, h => by simp at h
    | c :: es, off + 1, ln, hc, h => by
      have ih := flat_sub (off := off) (ln := ln) (fun x hx => hc x (List.mem_cons_of_mem _ hx)) (by simp at h; omega)
      rw [Nat.add_mul, Nat.one_mul, Nat.add_comm, ← hc c (by simp), List.flatten_cons, ← List.drop_drop, List.drop_left, hc c (by simp), ih]
      simp

theorem bytes_sound : ∀ {l : List (List HV)} {s : List UInt8} {x : List Value}, VRs φ l.flatten x → bytesOf l = some s → ∃ ns : List Int, x = ns.map (Value.int .u8) ∧ s = ns.map fun n => UInt8.ofNat n.toNat
  | [], s, x, hl, hs => by simp [bytesOf] at hs; subst hs; cases hl; exact ⟨[], rfl, rfl⟩
  | c :: r, s, x, hl, hs => by
    unfold bytesOf at hs
    split at hs
    · rename_i h; cases h
    · rename_i k r' h
      cases h
      cases hb : bytesOf r with
      | none => simp [hb] at hs
      | some q =>
        simp [hb] at hs
        subst hs
        simp only [List.flatten_cons, List.singleton_append] at hl
        cases hl with
        | cons _ u _ z hu hz =>
          cases hu
          obtain ⟨ns, rfl, rfl⟩ := bytes_sound hz hb
          exact ⟨_ :: ns, rfl, rfl⟩
    · cases hs

theorem foldl_push : ∀ (ns : List Int) (s : ByteArray), ns.foldl (fun r n => r.push (UInt8.ofNat n.toNat)) s = ⟨(s.data.toList ++ ns.map fun n => UInt8.ofNat n.toNat).toArray⟩
  | [], s => by simp
  | n :: ns, s => by
    rw [List.foldl_cons, foldl_push ns]
    simp [ByteArray.push]

theorem convStr_sound (hs : Sim φ w H) {src dst et : TypeId} {v : HV} {x : Value} {es : List (List HV)} {s : List UInt8} (hv : VR φ v x) (hsl : ∃ b l c, x = .slice b l c)
    (h1 : P.underlying src = some (.slice et)) (h2 : P.underlying et = some (.int .u8)) (h3 : P.underlying dst = some .string) (he : H.elems 1 v = some es) (hb : bytesOf es = some s) :
    ∃ u, (convert src dst x).run P w = .ok u w ∧ VR φ (.str s) u := by
  obtain ⟨b, l, c, rfl⟩ := hsl
  rw [run_convert_bytes_string w src dst et b l c h1 h2 h3]
  obtain ⟨e1, _, y, hy, hly, _, hn, hc⟩ := elems_cells hs hv he
  obtain ⟨ns, rfl, rfl⟩ := bytes_sound hy hb
  cases b with
  | none =>
    have h0 := hn rfl
    subst h0
    have : ns = [] := by simpa using hly
    subst this
    exact ⟨.string .empty, by simp [Conv.bytesToString], by have := str_mk (φ := φ) []; exact this⟩
  | some a =>
    have hr := run_loadCells_list (P := P) w a _ (hc a rfl)
    rw [hly, Nat.mul_one] at hr
    refine ⟨_, run_bytesToString w a l c ns hr, ?_⟩
    rw [foldl_push]
    exact str_mk _

/-! ### lengths and cuts -/
theorem sliceBound_ok {k : IntKind} {q : Int} {y : Nat} {c : BoundsCode} (h : 0 ≤ q ∧ q ≤ y) : (Instr.sliceBound (.int k q) y c).run P w = .ok q.toNat w := by
  simp [Instr.sliceBound, asIntOf, h]

/-- a bound that may be missing -/
def BR : Option Int → Option Value → Prop
  | none, none => True
  | some q, some v => ∃ k, v = .int k q
  | _, _ => False

theorem bounds_ok {isS : Bool} {ln cp : Nat} {lo hi mx : Option Int} {lo' hi' mx' : Option Value} (hl : BR lo lo') (hh : BR hi hi') (hm : BR mx mx') (h0 : 0 ≤ lo.getD 0) (h1 : lo.getD 0 ≤ hi.getD ln) (h2 : hi.getD ln ≤ mx.getD cp) (h3 : mx.getD cp ≤ cp) (h4 : mx ≠ none → hi ≠ none) :
    (Instr.sliceBounds isS ln cp lo' hi' mx').run P w = .ok ((lo.getD 0).toNat, (hi.getD ln).toNat, (mx.getD cp).toNat) w := by
  cases mx with
  | none =>
    cases mx' with
    | some _ => exact hm.elim
    | none =>
      cases hi with
      | none =>
        cases hi' with
        | some _ => exact hh.elim
        | none =>
          cases lo with
          | none =>
            cases lo' with
            | some _ => exact hl.elim
            | none => simp [Instr.sliceBounds]
          | some l =>
            cases lo' with
            | none => exact hl.elim
            | some _ =>
              obtain ⟨k, rfl⟩ := hl
              simp only [Option.getD_some, Option.getD_none] at *
              simp [Instr.sliceBounds, sliceBound_ok ⟨h0, h1⟩]
      | some h =>
        cases hi' with
        | none => exact hh.elim
        | some _ =>
          obtain ⟨k, rfl⟩ := hh
          simp only [Option.getD_some, Option.getD_none] at *
          cases lo with
          | none =>
            cases lo' with
            | some _ => exact hl.elim
            | none =>
              simp only [Option.getD_none] at *
              simp [Instr.sliceBounds, sliceBound_ok (P := P) (w := w) (k := k) (q := h) (y := cp) ⟨by omega, by omega⟩]
          | some l =>
            cases lo' with
            | none => exact hl.elim
            | some _ =>
              obtain ⟨k', rfl⟩ := hl
              simp only [Option.getD_some] at *
              simp [Instr.sliceBounds, sliceBound_ok (P := P) (w := w) (k := k) (q := h) (y := cp) ⟨by omega, by omega⟩, sliceBound_ok (P := P) (w := w) (k := k') (q := l) (y := h.toNat) ⟨by omega, by omega⟩]
  | some m =>
    cases mx' with
    | none => exact hm.elim
    | some _ =>
      obtain ⟨km, rfl⟩ := hm
      cases hi with
      | none => exact absurd rfl (h4 (by simp))
      | some h =>
        cases hi' with
        | none => exact hh.elim
        | some _ =>
          obtain ⟨k, rfl⟩ := hh
          simp only [Option.getD_some] at *
          cases lo with
          | none =>
            cases lo' with
            | some _ => exact hl.elim
            | none =>
              simp only [Option.getD_none] at *
              simp [Instr.sliceBounds, sliceBound_ok (P := P) (w := w) (k := km) (q := m) (y := cp) ⟨by omega, by omega⟩, sliceBound_ok (P := P) (w := w) (k := k) (q := h) (y := m.toNat) ⟨by omega, by omega⟩]
          | some l =>
            cases lo' with
            | none => exact hl.elim
            | some _ =>
              obtain ⟨k', rfl⟩ := hl
              simp only [Option.getD_some] at *
              simp [Instr.sliceBounds, sliceBound_ok (P := P) (w := w) (k := km) (q := m) (y := cp) ⟨by omega, by omega⟩, sliceBound_ok (P := P) (w := w) (k := k) (q := h) (y := m.toNat) ⟨by omega, by omega⟩, sliceBound_ok (P := P) (w := w) (k := k') (q := l) (y := h.toNat) ⟨by omega, by omega⟩]
end Go.HL
