/- The translation of the operations that only compute or read; the machine does what the instruction says. Conditions: none. -/
import Derived.Test.YtkopmkojmhlgcaaDoorH8
namespace Go.HL
variable {φ : Phi} {e : Env} {H : HH} {n B : Nat} {a : Act} {w : World} {P : Program}

def trOo : Option Operand → Option (Option O)
  | none => some none
  | some x => (trO x).map some

def isNilSlice : Operand → Bool
  | .const (.slice none 0 0) => true
  | _ => false

def trBin (P : Program) (op : BinOp) (t : TypeId) (x y : Operand) : Option PO :=
  let plain := (trO x).bind fun p => (trO y).map fun q => PO.bin op p q
  let cmp (neg : Bool) : Option PO := match P.underlying t with
    | some (.struct _) | some .bool => if P.eqGuardType P.depth t then none else (flatK P 9 t).bind fun ks => (trO x).bind fun p => (trO y).map fun q => .eq neg (agK P t) ks p q
    | some (.slice _) => if isNilSlice y then (trO x).map fun p => .eqnil neg p else none
    | some (.int _) | some .string => plain
    | _ => none
  match op with
  | .eql => cmp false
  | .neq => cmp true
  | _ => plain

def trPO (P : Program) (o : Op) : Option PO :=
  match o with
  | .move x | .assign x => (trO x).map .mv
  | .pick c x y => (trO c).bind fun p => (trO x).bind fun q => (trO y).map fun r => .pick p q r
  | .build t ps => (zeroC P t).bind fun z => (placesT P t).bind fun pl => (trParts pl ps.toList).map fun q => .mk z q
  | .load t x => (aggT P t).bind fun g => (sizeT P t).bind fun m => (trO x).map fun p => .load g m p
  | .fieldAddr s x f => (fieldT P s f).bind fun q => (sizeT P q.2).bind fun m => if 0 < m then (trO x).map fun p => .faddr p q.1 else none
  | .indexAddr t x i => match P.underlying t with
    | some (.slice et) => (sizeT P et).bind fun m => (trO x).bind fun p => (trO i).map fun q => .iaddr m p q
    | some (.array ln et) => (sizeT P et).bind fun m => (trO x).bind fun p => (trO i).map fun q => .iaddrA ln m p q
    | _ => none
  | .index t x i => match P.underlying t with
    | some .string => (trO x).bind fun p => (trO i).map fun q => .idxS p q
    | some (.array ln et) => (aggT P et).bind fun g => (sizeT P et).bind fun m => (trO x).bind fun p => (trO i).map fun q => .idxA g ln m p q
    | _ => none
  | .field s x f => (fieldT P s f).bind fun q => (aggT P q.2).bind fun g => (sizeT P q.2).bind fun m => (trO x).map fun p => .field g m q.1 p
  | .extract x i => (trO x).map fun p => .extract p i
  | .unOp op _ x => (trO x).map fun p => .un op p
  | .binOp op t x y _ => trBin P op t x y
  | .convert src dst x => match P.underlying src, P.underlying dst with
    | some (.int _), some (.int k) => (trO x).map fun p => .conv (.int k) p
    | some .string, some .string => (trO x).map fun p => .conv .same p
    | some (.slice et), some .string => match P.underlying et with
      | some (.int .u8) => (trO x).map fun p => .conv .str p
      | _ => none
    | _, _ => none
  | .call { callee := .builtin b, args := ⟨xs⟩, argTypes := ⟨ts⟩ } =>
    match b, xs, ts with
    | .len, [x], [t] => match P.underlying t with
      | some .string => (trO x).map fun p => .len 0 p
      | some (.slice _) => (trO x).map fun p => .len 1 p
      | some (.map _ _) => (trO x).map fun p => .len 2 p
      | _ => none
    | .max, x :: r, _ => (trO x).bind fun p => (trOs r).map fun q => .mxmn true p q
    | .min, x :: r, _ => (trO x).bind fun p => (trOs r).map fun q => .mxmn false p q
    | _, _, _ => none
  | .slice t x lo hi mx => match P.underlying t with
    | some .string => if mx.isNone then (trO x).bind fun p => (trOo lo).bind fun l => (trOo hi).map fun h => .cutS p l h else none
    | some (.slice et) => (sizeT P et).bind fun m => (trO x).bind fun p => (trOo lo).bind fun l => (trOo hi).bind fun h => (trOo mx).map fun k => .slice m p l h k
    | _ => none
  | .nilCheck x => (trO x).map .nilchk
  | .lookup t m k ok => match P.underlying t with
    | some (.map kt et) => (flatK P 9 kt).bind fun ks => (((P.info? et).bind (·.zero)).bind constV).bind fun z => (trO m).bind fun p => (trO k).map fun q => .lookup ok z (agK P kt) ks p q
    | _ => none
  | .makeFunc (.func f) first caps => (trOs first.toList).bind fun p => (trOs caps.toList).map fun q => .mkfn f p q
  | _ => none

theorem bind_some {α β : Type} {o : Option α} {f : α → Option β} {b : β} (h : o.bind f = some b) : ∃ x, o = some x ∧ f x = some b := by
  cases o with
  | none => simp at h
  | some x => exact ⟨x, rfl, h⟩
theorem map_some {α β : Type} {o : Option α} {f : α → β} {b : β} (h : o.map f = some b) : ∃ x, o = some x ∧ f x = b := by
  cases o with
  | none => simp at h
  | some x => exact ⟨x, rfl, by simpa using h⟩

theorem oInt_sound (hs : FS φ e H n B a w) {x : Option Operand} {o : Option O} (h : trOo x = some o) {q : Option Int} (hq : oInt e o = some q) : BR q (x.map a.eval) := by
  cases x with
  | none => simp [trOo] at h; subst h; simp [oInt] at hq; subst hq; trivial
  | some x =>
    obtain ⟨p, h1, rfl⟩ := map_some h
    simp only [oInt] at hq
    cases hv : e.v p with
    | none => simp [hv] at hq
    | some v =>
      have hr := trO_v h1 hs hv
      simp only [hv] at hq
      simp only [Option.map_some]
      generalize a.eval x = z at hr
      cases hr <;> simp at hq
      subst hq
      exact ⟨_, rfl⟩

theorem ev_of_v {o : O} {v : HV} (h : e.v o = some v) : e.ev o = .val v := by
  unfold Env.v at h
  cases he : e.ev o with
  | val u => rw [he] at h; simp at h; subst h; rfl
  | loc l f => rw [he] at h; simp at h
  | bad => rw [he] at h; simp at h

theorem trBin_sound (hs : FS φ e H n B a w) {op : BinOp} {t : TypeId} {x y : Operand} {p : PO} (h : trBin P op t x y = some p) {tv : TV} (hv : p.ev e H = some tv) :
    ∃ u, (do eqGuard op t x y (a.eval x) (a.eval y); binOp op t (a.eval x) (a.eval y) : Sem Value).run P w = .ok u w ∧ TR φ a tv u := by
  have plain : ∀ {p' : PO}, ((trO x).bind fun p => (trO y).map fun q => PO.bin op p q) = some p' → p'.ev e H = some tv →
      ∃ u, (do eqGuard op t x y (a.eval x) (a.eval y); binOp op t (a.eval x) (a.eval y) : Sem Value).run P w = .ok u w ∧ TR φ a tv u := by
    intro p' h hv
    obtain ⟨p, h1, h⟩ := bind_some h
    obtain ⟨q, h2, rfl⟩ := map_some h
    simp only [PO.ev] at hv
    obtain ⟨u, h3, hv⟩ := bind_some hv
    obtain ⟨z, h4, hv⟩ := bind_some hv
    obtain ⟨r, h5, rfl⟩ := map_some hv
    exact bin_sound (trO_v h1 hs h3) (trO_v h2 hs h4) h5
  have cmp : ∀ (neg : Bool) {p' : PO}, op = (if neg then .neq else .eql) → (match P.underlying t with
      | some (.struct _) | some .bool => if P.eqGuardType P.depth t then none else (flatK P 9 t).bind fun ks => (trO x).bind fun p => (trO y).map fun q => PO.eq neg (agK P t) ks p q
      | some (.slice _) => if isNilSlice y then (trO x).map fun p => .eqnil neg p else none
      | some (.int _) | some .string => ((trO x).bind fun p => (trO y).map fun q => PO.bin op p q)
      | _ => none) = some p' → p'.ev e H = some tv →
      ∃ u, (do eqGuard op t x y (a.eval x) (a.eval y); binOp op t (a.eval x) (a.eval y) : Sem Value).run P w = .ok u w ∧ TR φ a tv u := by
    intro neg p' hop h hv
    have flat : (agK P t = true ∨ P.underlying t = some .bool) → (if P.eqGuardType P.depth t then none else (flatK P 9 t).bind fun ks => (trO x).bind fun p => (trO y).map fun q => PO.eq neg (agK P t) ks p q) = some p' →
        ∃ u, (do eqGuard op t x y (a.eval x) (a.eval y); binOp op t (a.eval x) (a.eval y) : Sem Value).run P w = .ok u w ∧ TR φ a tv u := by
      intro ht h
      split at h
      · cases h
      · rename_i hg
        obtain ⟨ks, h0, h⟩ := bind_some h
        obtain ⟨p, h1, h⟩ := bind_some h
        obtain ⟨q, h2, rfl⟩ := map_some h
        simp only [PO.ev] at hv
        obtain ⟨u, h3, hv⟩ := bind_some hv
        obtain ⟨z, h4, hv⟩ := bind_some hv
        obtain ⟨r, h5, rfl⟩ := map_some hv
        subst hop
        exact ⟨_, eq_sound (trO_v h1 hs h3) (trO_v h2 hs h4) h0 (by simpa using hg) ht h5, .bool _⟩
    split at h
    · rename_i fs hu; exact flat (.inl (by simp [agK, hu])) h
    · rename_i hu; exact flat (.inr hu) h
    · rename_i et hu
      split at h
      · rename_i hn
        obtain ⟨q, h1, rfl⟩ := map_some h
        simp only [PO.ev] at hv
        obtain ⟨u, h3, hv⟩ := bind_some hv
        obtain ⟨r, h5, rfl⟩ := map_some hv
        have hy : a.eval y = .slice none 0 0 := by
          unfold isNilSlice at hn
          split at hn
          · rfl
          · cases hn
        have hx := trO_v h1 hs h3
        have hsl : ∃ b l c, a.eval x = .slice b l c := by
          generalize a.eval x = z at hx
          cases hx <;> simp [nilV] at h5
          · exact ⟨_, _, _, rfl⟩
          · exact ⟨_, _, _, rfl⟩
        subst hop
        rw [hy]
        exact ⟨_, eqnil_sound hx hu (by intro i f hh; subst hh; simp [nilV] at h5) h5 hsl, .bool _⟩
      · cases h
    · exact plain h hv
    · exact plain h hv
    · cases h
  unfold trBin at h
  cases op with
  | eql => exact cmp false rfl h hv
  | neq => exact cmp true rfl h hv
  | _ => exact plain h hv

theorem keyOk_sound {kt : TypeId} {ks : List Leaf} {k : HV} {kv : Value} (hk : VR φ k kv) (h : keyOk (agK P kt) ks k = true) : ∃ l, kv = valC P kt l ∧ l.length = ks.length := by
  cases hag : agK P kt with
  | true =>
    rw [hag] at h
    unfold keyOk at h
    split at h <;> try (simp_all; done)
    rename_i l _
    cases hk with
    | agg _ x hl ho =>
      refine ⟨x, ?_, by have := hl.length; simp at h; omega⟩
      unfold agK at hag
      unfold valC
      split at hag
      · rename_i fs hu; simp [hu]
      · cases hag
  | false =>
    rw [hag] at h
    simp at h
    refine ⟨[kv], ?_, by simp [h.2]⟩
    unfold agK at hag
    unfold valC
    split at hag
    · cases hag
    · rename_i h'; split
      · rename_i fs hu; exact absurd hu (h' fs)
      · rfl

theorem pur_sound (hs : FS φ e H n B a w) {o : Oper} {p : PO} (h : trPO P o.op = some p) {tv : TV} (hv : p.ev e H = some tv) : ∃ u, (execOp a.eval o).run P w = .ok (.value u) w ∧ TR φ a tv u := by
  obtain ⟨dst, op, type, pos, after, guard⟩ := o
  simp only at h
  have wrap : ∀ {s : Sem Value}, (∃ u, s.run P w = .ok u w ∧ TR φ a tv u) → ∃ u, (do pure (Next.value (← s)) : Sem Next).run P w = .ok (.value u) w ∧ TR φ a tv u := by
    rintro s ⟨u, h1, h2⟩
    exact ⟨u, by simp [h1], h2⟩
  have wrapV : ∀ {s : Sem Value} {v : HV}, tv = .val v → (∃ u, s.run P w = .ok u w ∧ VR φ v u) → ∃ u, (do pure (Next.value (← s)) : Sem Next).run P w = .ok (.value u) w ∧ TR φ a tv u := by
    rintro s v rfl ⟨u, h1, h2⟩
    exact ⟨u, by simp [h1], h2⟩
  unfold trPO at h
  split at h
  · obtain ⟨q, h1, rfl⟩ := map_some h
    simp only [PO.ev, Option.some.injEq] at hv
    subst hv
    exact ⟨_, rfl, trO_sound h1 hs⟩
  · obtain ⟨q, h1, rfl⟩ := map_some h
    simp only [PO.ev, Option.some.injEq] at hv
    subst hv
    exact ⟨_, rfl, trO_sound h1 hs⟩
  · obtain ⟨c, h1, h⟩ := bind_some h
    obtain ⟨x, h2, h⟩ := bind_some h
    obtain ⟨y, h3, rfl⟩ := map_some h
    simp only [PO.ev] at hv
    split at hv
    · rename_i r hc
      have hr := trO_v h1 hs hc
      cases hv
      have h4 := trO_sound h2 hs
      have h5 := trO_sound h3 hs
      simp only [execOp]
      generalize a.eval _ = z at hr
      cases hr
      cases r
      · exact ⟨_, by simp [asBool], h5⟩
      · exact ⟨_, by simp [asBool], h4⟩
    · cases hv
  · obtain ⟨z, h1, h⟩ := bind_some h
    obtain ⟨pl, h2, h⟩ := bind_some h
    obtain ⟨q, h3, rfl⟩ := map_some h
    simp only [PO.ev] at hv
    obtain ⟨l, h4, rfl⟩ := map_some hv
    exact wrapV rfl (build_sound hs h1 h2 h3 h4)
  · obtain ⟨g, h1, h⟩ := bind_some h
    obtain ⟨m, h2, h⟩ := bind_some h
    obtain ⟨q, h3, rfl⟩ := map_some h
    simp only [PO.ev] at hv
    obtain ⟨l, h4, rfl⟩ := map_some hv
    exact wrapV rfl (load_sound hs (trO_sound h3 hs) h4 h1 h2)
  · obtain ⟨q, h1, h⟩ := bind_some h
    obtain ⟨m, h2, h⟩ := bind_some h
    split at h
    · rename_i hm
      obtain ⟨x, h3, rfl⟩ := map_some h
      simp only [PO.ev] at hv
      exact wrap (faddr_sound (trO_sound h3 hs) h1 h2 hm hv)
    · cases h
  · split at h
    · rename_i et hu
      obtain ⟨m, h1, h⟩ := bind_some h
      obtain ⟨x, h2, h⟩ := bind_some h
      obtain ⟨i, h3, rfl⟩ := map_some h
      simp only [PO.ev] at hv
      cases hx : e.v x with
      | none => simp [hx, iaddrV] at hv
      | some v =>
        cases hi : e.v i with
        | none => rw [hx, hi] at hv; unfold iaddrV at hv; cases v <;> simp at hv
        | some u =>
          rw [hx, hi] at hv
          exact wrap (iaddr_sound hs (trO_v h2 hs hx) (trO_v h3 hs hi) hu h1 hv)
    · rename_i ln et hu
      obtain ⟨m, h1, h⟩ := bind_some h
      obtain ⟨x, h2, h⟩ := bind_some h
      obtain ⟨i, h3, rfl⟩ := map_some h
      simp only [PO.ev] at hv
      cases hi : e.v i with
      | none =>
        rw [hi] at hv
        unfold iaddrAV at hv
        exfalso
        split at hv <;> simp_all
      | some u =>
        rw [hi] at hv
        exact wrap (iaddrA_sound (trO_sound h2 hs) (trO_v h3 hs hi) hu h1 hv)
    · cases h
  · split at h
    · rename_i hu
      obtain ⟨x, h2, h⟩ := bind_some h
      obtain ⟨i, h3, rfl⟩ := map_some h
      simp only [PO.ev] at hv
      split at hv
      · rename_i s k q hx hi
        split at hv
        · rename_i h0
          obtain ⟨b, h4, rfl⟩ := map_some hv
          have hxr := trO_v h2 hs hx
          have hir := trO_v h3 hs hi
          simp only [execOp]
          generalize a.eval _ = z1 at hxr
          generalize a.eval _ = z2 at hir
          cases hir
          exact wrapV rfl ⟨_, idxS_sound hxr hu h0 h4, .int _ _⟩
        · cases hv
      · cases hv
    · rename_i ln et hu
      obtain ⟨g, h0, h⟩ := bind_some h
      obtain ⟨m, h1, h⟩ := bind_some h
      obtain ⟨x, h2, h⟩ := bind_some h
      obtain ⟨i, h3, rfl⟩ := map_some h
      simp only [PO.ev] at hv
      split at hv
      · rename_i l k q hx hi
        split at hv
        · rename_i hc
          obtain ⟨b, h4, rfl⟩ := map_some hv
          have hxr := trO_v h2 hs hx
          have hir := trO_v h3 hs hi
          simp only [execOp]
          generalize a.eval _ = z1 at hxr
          generalize a.eval _ = z2 at hir
          cases hir
          exact wrapV rfl (idxA_sound hxr hu hc h4 h0 h1)
        · cases hv
      · cases hv
    · cases h
  · obtain ⟨q, h0, h⟩ := bind_some h
    obtain ⟨g, h1, h⟩ := bind_some h
    obtain ⟨m, h2, h⟩ := bind_some h
    obtain ⟨x, h3, rfl⟩ := map_some h
    simp only [PO.ev] at hv
    split at hv
    · rename_i l hx
      obtain ⟨b, h4, rfl⟩ := map_some hv
      exact wrapV rfl (field_sound (trO_v h3 hs hx) h0 h4 h1 h2)
    · cases hv
  · obtain ⟨x, h3, rfl⟩ := map_some h
    simp only [PO.ev] at hv
    split at hv
    · rename_i l hx
      obtain ⟨b, h4, rfl⟩ := map_some hv
      exact wrapV rfl (extract_sound (trO_v h3 hs hx) h4)
    · cases hv
  · obtain ⟨x, h3, rfl⟩ := map_some h
    simp only [PO.ev] at hv
    obtain ⟨u, h4, hv⟩ := bind_some hv
    obtain ⟨b, h5, rfl⟩ := map_some hv
    exact wrapV rfl (un_sound (trO_v h3 hs h4) h5)
  · exact wrap (trBin_sound hs h hv)
  · split at h
    · rename_i k1 k2 hu1 hu2
      obtain ⟨x, h3, rfl⟩ := map_some h
      simp only [PO.ev] at hv
      split at hv
      · rename_i k q hx
        cases hv
        have hxr := trO_v h3 hs hx
        simp only [execOp]
        generalize a.eval _ = z1 at hxr
        cases hxr
        exact wrapV rfl ⟨_, by simp [convert, run_underlying hu1, run_underlying hu2, Conv.intToInt], .int _ _⟩
      · cases hv
    · rename_i hu1 hu2
      obtain ⟨x, h3, rfl⟩ := map_some h
      simp only [PO.ev] at hv
      split at hv
      · rename_i s hx
        cases hv
        have hxr := trO_v h3 hs hx
        simp only [execOp]
        generalize a.eval _ = z1 at hxr
        have e1 := str_eq hxr
        subst e1
        exact wrapV rfl ⟨_, by simp [convert, run_underlying hu1, run_underlying hu2], hxr⟩
      · cases hv
    · rename_i et hu1 hu2
      split at h
      · rename_i hu3
        obtain ⟨x, h3, rfl⟩ := map_some h
        simp only [PO.ev] at hv
        obtain ⟨v, h4, hv⟩ := bind_some hv
        obtain ⟨es, h5, hv⟩ := bind_some hv
        obtain ⟨s, h6, rfl⟩ := map_some hv
        have hxr := trO_v h3 hs h4
        refine wrapV rfl (convStr_sound hs.sim hxr ?_ hu1 hu3 hu2 h5 h6)
        generalize a.eval _ = z1 at hxr
        cases hxr <;> simp [HH.elems] at h5 ⊢
      · cases h
    · cases h
  · rename_i b xs ts
    split at h
    · rename_i x t
      split at h
      · rename_i hu
        obtain ⟨p, h1, rfl⟩ := map_some h
        simp only [PO.ev] at hv
        split at hv <;> try (simp_all; done)
        rename_i s _ hx
        cases hv
        have hxr := trO_v h1 hs hx
        simp only [execOp, resolve]
        have e1 := str_eq hxr
        refine ⟨_, ?_, .int _ _⟩
        have hsz : (ByteArray.mk s.toArray).size = s.length := by simp [ByteArray.size]
        simp [invoke, builtin, Builtin.len_, e1, run_underlying hu, goInt, hsz]
      · rename_i et hu
        obtain ⟨p, h1, rfl⟩ := map_some h
        simp only [PO.ev] at hv
        split at hv <;> try (simp_all; done)
        · rename_i _ hx
          cases hv
          have hxr := trO_v h1 hs hx
          simp only [execOp, resolve]
          generalize hz : a.eval x = z at hxr
          cases hxr
          refine ⟨_, ?_, .int _ _⟩
          simp [invoke, builtin, Builtin.len_, hz, run_underlying hu, goInt]
        · rename_i _ hx
          cases hv
          have hxr := trO_v h1 hs hx
          simp only [execOp, resolve]
          generalize hz : a.eval x = z at hxr
          cases hxr
          refine ⟨_, ?_, .int _ _⟩
          simp [invoke, builtin, Builtin.len_, hz, run_underlying hu, goInt]
      · rename_i kt et hu
        obtain ⟨p, h1, rfl⟩ := map_some h
        simp only [PO.ev] at hv
        split at hv <;> try (simp_all; done)
        · rename_i _ hx
          cases hv
          have hxr := trO_v h1 hs hx
          simp only [execOp, resolve]
          generalize hz : a.eval x = z at hxr
          cases hxr
          refine ⟨_, ?_, .int _ _⟩
          simp [invoke, builtin, Builtin.len_, hz, run_underlying hu, goInt]
        · rename_i _ hx
          split at hv
          · rename_i es hg
            cases hv
            have hxr := trO_v h1 hs hx
            simp only [execOp, resolve]
            generalize hz : a.eval x = z at hxr
            cases hxr with
            | map _ q hq =>
              obtain ⟨ents, g1, g2, _⟩ := hs.sim.ob _ q _ hq hg
              have hget : (getObj q.blk).run P w = .ok (.map ents es.length) w := by simp [getObj, Sem.run, g1]
              refine ⟨_, ?_, .int _ _⟩
              simp [invoke, builtin, Builtin.len_, hz, run_underlying hu, goInt, hget, g2]
          · cases hv
      · cases h
    · rename_i x r
      obtain ⟨p, h1, h⟩ := bind_some h
      obtain ⟨q, h2, rfl⟩ := map_some h
      simp only [PO.ev] at hv
      obtain ⟨v, h3, hv⟩ := bind_some hv
      obtain ⟨l, h4, hv⟩ := bind_some hv
      obtain ⟨u, h5, rfl⟩ := map_some hv
      obtain ⟨y, h6, h7⟩ := mx_sound (P := P) (w := w) (trO_v h1 hs h3) (trOs_sound hs h2 h4) h5
      refine ⟨y, ?_, h7⟩
      simp only [if_true] at h6
      simp [execOp, resolve, invoke, builtin, Builtin.max_, h6]
    · rename_i x r
      obtain ⟨p, h1, h⟩ := bind_some h
      obtain ⟨q, h2, rfl⟩ := map_some h
      simp only [PO.ev] at hv
      obtain ⟨v, h3, hv⟩ := bind_some hv
      obtain ⟨l, h4, hv⟩ := bind_some hv
      obtain ⟨u, h5, rfl⟩ := map_some hv
      obtain ⟨y, h6, h7⟩ := mx_sound (P := P) (w := w) (trO_v h1 hs h3) (trOs_sound hs h2 h4) h5
      refine ⟨y, ?_, h7⟩
      simp only [Bool.false_eq_true, if_false] at h6
      simp [execOp, resolve, invoke, builtin, Builtin.min_, h6]
    · cases h
  · split at h
    · rename_i hu
      split at h
      · rename_i hmx
        obtain ⟨p, h1, h⟩ := bind_some h
        obtain ⟨l, h2, h⟩ := bind_some h
        obtain ⟨r, h3, rfl⟩ := map_some h
        simp only [PO.ev] at hv
        split at hv
        · rename_i s hx
          obtain ⟨q1, h4, hv⟩ := bind_some hv
          obtain ⟨q2, h5, hv⟩ := bind_some hv
          obtain ⟨v, h6, rfl⟩ := map_some hv
          have e := cutStr_sound (P := P) (w := w) (trO_v h1 hs hx) hu (oInt_sound hs h2 h4) (oInt_sound hs h3 h5) h6
          have hn : ∀ m : Option Operand, m.isNone = true → m = none := fun m hm => by cases m <;> simp_all
          have hm := hn _ hmx
          subst hm
          exact wrapV rfl e
        · cases hv
      · cases h
    · rename_i et hu
      obtain ⟨m, h0, h⟩ := bind_some h
      obtain ⟨p, h1, h⟩ := bind_some h
      obtain ⟨l, h2, h⟩ := bind_some h
      obtain ⟨r, h3, h⟩ := bind_some h
      obtain ⟨k, h4, rfl⟩ := map_some h
      simp only [PO.ev] at hv
      split at hv
      · rename_i hx
        obtain ⟨q1, h5, hv⟩ := bind_some hv
        obtain ⟨q2, h6, hv⟩ := bind_some hv
        obtain ⟨q3, h7, hv⟩ := bind_some hv
        split at hv
        · rename_i hc
          obtain ⟨v, h8, rfl⟩ := map_some hv
          exact wrapV rfl (cutNil_sound (trO_v h1 hs hx) hu h0 (oInt_sound hs h2 h5) (oInt_sound hs h3 h6) (oInt_sound hs h4 h7) hc h8)
        · cases hv
      · rename_i id off ln room ex hx
        split at hv
        · rename_i ro s es hg
          split at hv
          · rename_i hsz
            subst hsz
            obtain ⟨q1, h5, hv⟩ := bind_some hv
            obtain ⟨q2, h6, hv⟩ := bind_some hv
            obtain ⟨q3, h7, hv⟩ := bind_some hv
            obtain ⟨v, h8, rfl⟩ := map_some hv
            exact wrapV rfl (cut_sound hs.sim (trO_v h1 hs hx) hu h0 (oInt_sound hs h2 h5) (oInt_sound hs h3 h6) (oInt_sound hs h4 h7) ⟨ro, es, hg⟩ h8)
          · cases hv
        · cases hv
      · cases hv
    · cases h
  · obtain ⟨x, h3, rfl⟩ := map_some h
    simp only [PO.ev] at hv
    split at hv
    · rename_i id i f hx
      cases hv
      have hxr := trO_sound h3 hs
      rw [hx] at hxr
      simp only [execOp]
      generalize a.eval _ = z1 at hxr
      have hxr' : VR φ _ _ := hxr
      cases hxr'
      exact ⟨_, rfl, hxr⟩
    · rename_i l f hx
      cases hv
      have hxr := trO_sound h3 hs
      rw [hx] at hxr
      simp only [execOp]
      generalize a.eval _ = z1 at hxr
      obtain ⟨b, h4, rfl⟩ := hxr
      exact ⟨_, rfl, b, h4, rfl⟩
    · rename_i f p q hx
      cases hv
      have hxr := trO_sound h3 hs
      rw [hx] at hxr
      simp only [execOp]
      generalize a.eval _ = z1 at hxr
      have hxr' : VR φ _ _ := hxr
      cases hxr'
      exact ⟨_, rfl, hxr⟩
    · cases hv
  · split at h
    · rename_i kt et hu
      obtain ⟨ks, h0, h⟩ := bind_some h
      obtain ⟨z, h1, h⟩ := bind_some h
      obtain ⟨p, h2, h⟩ := bind_some h
      obtain ⟨q, h3, rfl⟩ := map_some h
      simp only [PO.ev] at hv
      obtain ⟨m, h4, hv⟩ := bind_some hv
      obtain ⟨k, h5, hv⟩ := bind_some hv
      split at hv
      · rename_i hkey
        obtain ⟨v, h6, rfl⟩ := map_some hv
        obtain ⟨zv, h7, h8⟩ := bind_some h1
        obtain ⟨it, h9, h10⟩ := bind_some h7
        have hkr := trO_v h3 hs h5
        refine wrapV rfl (lookup_sound hs.sim (trO_v h2 hs h4) hkr hu h0 h9 h10 h8 ?_ h6)
        exact keyOk_sound hkr hkey
      · cases hv
    · cases h
  · obtain ⟨p, h1, h⟩ := bind_some h
    obtain ⟨q, h2, rfl⟩ := map_some h
    simp only [PO.ev] at hv
    obtain ⟨l1, h3, hv⟩ := bind_some hv
    obtain ⟨l2, h4, rfl⟩ := map_some hv
    refine wrapV rfl ⟨_, rfl, ?_⟩
    have e1 := trOs_sound hs h1 h3
    have e2 := trOs_sound hs h2 h4
    rename_i f first caps _ _
    have h6 := VR.fn f _ _ _ _ e1 e2
    have e3 : ∀ x : Array Operand, (⟨x.toList.map a.eval⟩ : Array Value) = x.map a.eval := fun x => by apply Array.ext'; simp
    rw [e3, e3] at h6
    exact h6
  · cases h
end Go.HL
