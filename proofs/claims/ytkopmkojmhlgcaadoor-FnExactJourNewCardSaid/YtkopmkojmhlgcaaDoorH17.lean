/- What instructions use; what an instruction leaves; an instruction goes past what has put a value into one temporary. Conditions: none. -/
import Derived.Test.YtkopmkojmhlgcaaDoorH16
namespace Go.HL
variable {e e' : Env} {h h' : HH} {P : Program}

def O.us : O → List Nat
  | .t n => [n]
  | .c _ => []
def oUs (l : List O) : List Nat := l.flatMap O.us
def ooUs : Option O → List Nat
  | some o => o.us
  | none => []
def PO.us : PO → List Nat
  | .mv x => x.us
  | .pick c a b => c.us ++ a.us ++ b.us
  | .mk _ ps => oUs (ps.map (·.2.2))
  | .load _ _ p => p.us
  | .faddr p _ => p.us
  | .iaddr _ x i => x.us ++ i.us
  | .iaddrA _ _ p i => p.us ++ i.us
  | .idxS x i => x.us ++ i.us
  | .idxA _ _ _ x i => x.us ++ i.us
  | .field _ _ _ x => x.us
  | .extract x _ => x.us
  | .un _ x => x.us
  | .bin _ x y => x.us ++ y.us
  | .eq _ _ _ x y => x.us ++ y.us
  | .eqnil _ x => x.us
  | .conv _ x => x.us
  | .len _ x => x.us
  | .cutS x lo hi => x.us ++ ooUs lo ++ ooUs hi
  | .slice _ x lo hi mx => x.us ++ ooUs lo ++ ooUs hi ++ ooUs mx
  | .nilchk x => x.us
  | .lookup _ _ _ _ m k => m.us ++ k.us
  | .mxmn _ x xs => x.us ++ oUs xs
  | .mkfn _ a b => oUs a ++ oUs b
def NO.us : NO → List Nat
  | .mkSlice _ _ _ ps => oUs (ps.map (·.2))
  | .make _ _ _ a b => a.us ++ b.us
  | .var _ _ => []
  | .box _ x => x.us
  | .map => []
  | .bytes x => x.us
  | .range x => x.us
def HI.us : HI → List Nat
  | .pur _ op => op.us
  | .alloc _ _ => []
  | .box _ _ x => x.us
  | .new _ op => op.us
  | .store _ p x => p.us ++ x.us
  | .app _ _ _ s x => s.us ++ x.us
  | .call _ _ xs => oUs xs
  | .callv _ _ x xs => x.us ++ oUs xs
  | .mapupd _ _ m k x => m.us ++ k.us ++ x.us
  | .next _ it => it.us
def HI.dst : HI → Option Nat
  | .pur d _ | .alloc d _ | .box d _ _ | .new d _ | .app d _ _ _ _ | .next d _ => some d
  | .store _ _ _ | .mapupd _ _ _ _ _ => none
  | .call d _ _ | .callv d _ _ _ => d
def HG.us (i : HG) : List Nat := (match i.g with | some (g, _) => [g] | none => []) ++ i.i.us
/-- makes a local variable -/
def HI.isAl : HI → Bool
  | .alloc _ _ | .box _ _ _ => true
  | _ => false
def HI.isSt : HI → Bool
  | .store _ _ _ => true
  | _ => false
/-- leaves the objects that are there -/
def HI.keeps : HI → Bool
  | .pur _ _ | .alloc _ _ | .box _ _ _ | .new _ _ => true
  | _ => false
/-- asks the heap -/
def PO.rd : PO → Bool
  | .load _ _ _ | .iaddr _ _ _ | .conv .str _ | .len _ _ | .slice _ _ _ _ _ | .lookup _ _ _ _ _ _ => true
  | _ => false

/-- both read the same -/
def Ag (us : List Nat) (e e' : Env) : Prop := ∀ t ∈ us, e'.t t = e.t t
theorem Ag.left {a b : List Nat} (h : Ag (a ++ b) e e') : Ag a e e' := fun t ht => h t (List.mem_append_left _ ht)
theorem Ag.right {a b : List Nat} (h : Ag (a ++ b) e e') : Ag b e e' := fun t ht => h t (List.mem_append_right _ ht)
theorem Ag.ev {o : O} (h : Ag o.us e e') : e'.ev o = e.ev o := by
  cases o with
  | t n => exact h n (by simp [O.us])
  | c v => rfl
theorem Ag.v {o : O} (h : Ag o.us e e') : e'.v o = e.v o := by unfold Env.v; rw [h.ev]
theorem Ag.vs : ∀ {l : List O}, Ag (oUs l) e e' → e'.vs l = e.vs l
  | [], _ => rfl
  | o :: r, h => by
    have h : Ag (o.us ++ oUs r) e e' := by simpa [oUs] using h
    simp only [Env.vs_cons, h.left.v, Ag.vs h.right]
theorem Ag.oInt {o : Option O} (h : Ag (ooUs o) e e') : HL.oInt e' o = HL.oInt e o := by
  cases o with
  | none => rfl
  | some o => simp only [HL.oInt, Ag.v (o := o) h]
theorem Ag.parts : ∀ {ps : List (Nat × Nat × O)} {cs : List HV}, Ag (oUs (ps.map (·.2.2))) e e' → mkParts e' cs ps = mkParts e cs ps
  | [], _, _ => rfl
  | (a, b, o) :: r, cs, h => by
    have h : Ag (o.us ++ oUs (r.map (·.2.2))) e e' := by simpa [oUs] using h
    simp only [mkParts, h.left.v]
    congr 1
    funext v
    split
    · exact Ag.parts h.right
    · rfl
theorem Ag.els {sz : Nat} : ∀ {ps : List (Nat × O)} {cs : List (List HV)}, Ag (oUs (ps.map (·.2))) e e' → mkElems e' sz cs ps = mkElems e sz cs ps
  | [], _, _ => rfl
  | (a, o) :: r, cs, h => by
    have h : Ag (o.us ++ oUs (r.map (·.2))) e e' := by simpa [oUs] using h
    simp only [mkElems, h.left.v]
    congr 1
    funext v
    split
    · exact Ag.els h.right
    · rfl

/-- the local variables that the operands lie in read the same -/
def AgL (us : List Nat) (e e' : Env) : Prop := ∀ t ∈ us, ∀ l f, e.t t = .loc l f → e'.l l = e.l l

theorem PO.ev_ag {op : PO} (hu : Ag op.us e e') (hl : (∃ g m p, op = .load g m p) → AgL op.us e e') : op.ev e' h = op.ev e h := by
  cases op with
  | load g m p =>
    simp only [PO.ev, Ag.ev (o := p) hu]
    congr 1
    have hl := hl ⟨_, _, _, rfl⟩
    cases p with
    | c v => cases v <;> rfl
    | t n =>
      simp only [Env.ev_t, HH.loadP]
      cases he : e.t n with
      | loc l f => simp only [hl n (by simp [PO.us, O.us]) l f he]
      | val v => cases v <;> rfl
      | bad => rfl
  | pick c a b => simp only [PO.ev, Ag.v (o := c) hu.left.left, Ag.ev (o := a) hu.left.right, Ag.ev (o := b) hu.right]
  | mk z ps => simp only [PO.ev, Ag.parts (ps := ps) hu]
  | mv x => simp only [PO.ev, Ag.ev (o := x) hu]
  | faddr x _ => simp only [PO.ev, Ag.ev (o := x) hu]
  | nilchk x => simp only [PO.ev, Ag.ev (o := x) hu]
  | iaddr s x i => simp only [PO.ev, Ag.v (o := x) hu.left, Ag.v (o := i) hu.right]
  | iaddrA l s x i => simp only [PO.ev, Ag.ev (o := x) hu.left, Ag.v (o := i) hu.right]
  | idxS x i => simp only [PO.ev, Ag.v (o := x) hu.left, Ag.v (o := i) hu.right]
  | idxA _ _ _ x i => simp only [PO.ev, Ag.v (o := x) hu.left, Ag.v (o := i) hu.right]
  | field _ _ _ x => simp only [PO.ev, Ag.v (o := x) hu]
  | extract x _ => simp only [PO.ev, Ag.v (o := x) hu]
  | un _ x => simp only [PO.ev, Ag.v (o := x) hu]
  | bin _ x y => simp only [PO.ev, Ag.v (o := x) hu.left, Ag.v (o := y) hu.right]
  | eq _ _ _ x y => simp only [PO.ev, Ag.v (o := x) hu.left, Ag.v (o := y) hu.right]
  | eqnil _ x => simp only [PO.ev, Ag.v (o := x) hu]
  | conv k x => cases k <;> simp only [PO.ev, Ag.v (o := x) hu]
  | len _ x => simp only [PO.ev, Ag.v (o := x) hu]
  | cutS x lo hi => simp only [PO.ev, Ag.v (o := x) hu.left.left, Ag.oInt (o := lo) hu.left.right, Ag.oInt (o := hi) hu.right]
  | slice _ x lo hi mx => simp only [PO.ev, Ag.v (o := x) hu.left.left.left, Ag.oInt (o := lo) hu.left.left.right, Ag.oInt (o := hi) hu.left.right, Ag.oInt (o := mx) hu.right]
  | lookup _ _ _ _ m k => simp only [PO.ev, Ag.v (o := m) hu.left, Ag.v (o := k) hu.right]
  | mxmn _ x xs => simp only [PO.ev, Ag.v (o := x) hu.left, Ag.vs (l := xs) hu.right]
  | mkfn _ a b => simp only [PO.ev, Ag.vs (l := a) hu.left, Ag.vs (l := b) hu.right]

theorem NO.ev_ag {op : NO} {id : Nat} (hu : Ag op.us e e') : op.ev e' id = op.ev e id := by
  cases op with
  | mkSlice _ _ _ ps => simp only [NO.ev, Ag.els (ps := ps) hu]
  | make _ _ _ a b => simp only [NO.ev, Ag.v (o := a) hu.left, Ag.v (o := b) hu.right]
  | var _ _ => rfl
  | box _ x => simp only [NO.ev, Ag.v (o := x) hu]
  | map => rfl
  | bytes x => simp only [NO.ev, Ag.v (o := x) hu]
  | range x => simp only [NO.ev, Ag.v (o := x) hu]

theorem PO.ev_still {op : PO} (hr : op.rd = false) : op.ev e h' = op.ev e h := by
  cases op with
  | conv k x => cases k <;> first | rfl | simp [PO.rd] at hr
  | _ => first | rfl | simp [PO.rd] at hr

/-- the objects of one heap are in the other -/
def HLe (h h' : HH) : Prop := ∀ id o, h.get id = some o → h'.get id = some o

theorem HLe.elems (hl : HLe h h') {sz : Nat} {v : HV} {es : List (List HV)} (hv : h.elems sz v = some es) : h'.elems sz v = some es := by
  cases v with
  | slice id off len room ex =>
    simp only [HH.elems] at hv ⊢
    split at hv
    · rename_i ro s es' hg
      rw [hl _ _ hg]; exact hv
    · cases hv
  | _ => exact hv

theorem PO.ev_le (hl : HLe h h') {op : PO} {tv : TV} (hv : op.ev e h = some tv) : op.ev e h' = some tv := by
  by_cases hr : op.rd = false
  · rw [PO.ev_still (h := h) hr]; exact hv
  · cases op with
    | load g m p =>
      simp only [PO.ev] at hv ⊢
      obtain ⟨v, h1, rfl⟩ := map_some hv
      have : h'.loadP e g m (e.ev p) = some v := by
        generalize e.ev p = q at h1 ⊢
        cases q with
        | val u =>
          cases u with
          | ptr id i f =>
            simp only [HH.loadP] at h1 ⊢
            split at h1
            · rename_i hg; rw [hl _ _ hg]; exact h1
            · cases h1
          | _ => exact h1
        | _ => exact h1
      rw [this]; rfl
    | iaddr sz x i =>
      simp only [PO.ev] at hv ⊢
      generalize e.v x = a at hv ⊢
      generalize e.v i = b at hv ⊢
      unfold iaddrV at hv ⊢
      split at hv
      · split at hv
        · rename_i hg; rw [hl _ _ hg]; exact hv
        · cases hv
      · cases hv
    | conv k x =>
      cases k with
      | str =>
        simp only [PO.ev] at hv ⊢
        obtain ⟨a, h1, hv⟩ := bind_some hv
        obtain ⟨es, h2, hv⟩ := bind_some hv
        rw [h1, Option.bind_some, hl.elems h2, Option.bind_some]; exact hv
      | _ => exact absurd rfl hr
    | len k x =>
      simp only [PO.ev] at hv ⊢
      generalize e.v x = a at hv ⊢
      split at hv
      · exact hv
      · exact hv
      · exact hv
      · exact hv
      · split at hv
        · rename_i hg; rw [hl _ _ hg]; exact hv
        · cases hv
      · cases hv
    | slice sz x lo hi mx =>
      simp only [PO.ev] at hv ⊢
      generalize e.v x = a at hv ⊢
      split at hv
      · exact hv
      · split at hv
        · rename_i hg; rw [hl _ _ hg]; exact hv
        · cases hv
      · cases hv
    | lookup ok z ag ks m k =>
      simp only [PO.ev] at hv ⊢
      obtain ⟨a, h1, hv⟩ := bind_some hv
      obtain ⟨b, h2, hv⟩ := bind_some hv
      rw [h1, Option.bind_some, h2, Option.bind_some]
      split at hv
      · rename_i hk
        rw [if_pos hk]
        obtain ⟨v, h3, rfl⟩ := map_some hv
        have : lookV h' ok z ag ks a b = some v := by
          unfold lookV at h3 ⊢
          split at h3
          · exact h3
          · split at h3
            · rename_i hg; rw [hl _ _ hg]; exact h3
            · cases h3
          · cases h3
        rw [this]; rfl
      · cases hv
    | _ => exact absurd rfl hr

/-- an address of a local variable comes from such an address -/
theorem PO.ev_loc {op : PO} {l f : Nat} (hv : op.ev e h = some (.loc l f)) : ∃ t f', e.t t = .loc l f' := by
  have key : ∀ (o : O) (f' : Nat), e.ev o = .loc l f' → ∃ t f', e.t t = .loc l f' := by
    intro o f' ho
    cases o with
    | t n => exact ⟨n, f', ho⟩
    | c v => cases ho
  cases op with
  | mv x => simp only [PO.ev, Option.some.injEq] at hv; exact key x f hv
  | pick c a b =>
    simp only [PO.ev] at hv
    split at hv
    · rename_i r _
      cases r
      · simp only [Option.some.injEq] at hv; exact key b f hv
      · simp only [Option.some.injEq] at hv; exact key a f hv
    · cases hv
  | faddr p off =>
    simp only [PO.ev] at hv
    cases hp : e.ev p with
    | loc l' f' => rw [hp] at hv; simp only [faddrV, Option.some.injEq, TV.loc.injEq] at hv; exact key p f' (by rw [hp, hv.1])
    | val u => rw [hp] at hv; cases u <;> simp [faddrV] at hv
    | bad => rw [hp] at hv; cases hv
  | iaddrA ln sz p i =>
    simp only [PO.ev] at hv
    cases hp : e.ev p with
    | loc l' f' =>
      rw [hp] at hv
      unfold iaddrAV at hv
      split at hv
      · rename_i heq _
        cases heq
        split at hv
        · simp only [Option.some.injEq, TV.loc.injEq] at hv; exact key p f' (by rw [hp, hv.1])
        · cases hv
      · split at hv <;> cases hv
      · cases hv
    | val u =>
      rw [hp] at hv
      unfold iaddrAV at hv
      split at hv
      · rename_i heq _; cases heq
      · split at hv <;> cases hv
      · cases hv
    | bad => rw [hp] at hv; cases hv
  | nilchk x =>
    simp only [PO.ev] at hv
    split at hv
    · cases hv
    · rename_i hp; simp only [Option.some.injEq, TV.loc.injEq] at hv; exact key x _ (by rw [hp, hv.1])
    · cases hv
    · cases hv
  | iaddr sz x i =>
    simp only [PO.ev] at hv
    unfold iaddrV at hv
    repeat' split at hv
    all_goals cases hv
  | load g m p => simp only [PO.ev] at hv; obtain ⟨_, _, h⟩ := map_some hv; cases h
  | mk z ps => simp only [PO.ev] at hv; obtain ⟨_, _, h⟩ := map_some hv; cases h
  | idxS x i =>
    simp only [PO.ev] at hv
    repeat' split at hv
    · obtain ⟨_, _, h⟩ := map_some hv; cases h
    all_goals cases hv
  | idxA _ _ _ x i =>
    simp only [PO.ev] at hv
    repeat' split at hv
    · obtain ⟨_, _, h⟩ := map_some hv; cases h
    all_goals cases hv
  | field _ _ _ x =>
    simp only [PO.ev] at hv
    split at hv
    · obtain ⟨_, _, h⟩ := map_some hv; cases h
    · cases hv
  | extract x _ =>
    simp only [PO.ev] at hv
    split at hv
    · obtain ⟨_, _, h⟩ := map_some hv; cases h
    · cases hv
  | un _ x => simp only [PO.ev] at hv; obtain ⟨_, _, hv⟩ := bind_some hv; obtain ⟨_, _, h⟩ := map_some hv; cases h
  | bin _ x y => simp only [PO.ev] at hv; obtain ⟨_, _, hv⟩ := bind_some hv; obtain ⟨_, _, hv⟩ := bind_some hv; obtain ⟨_, _, h⟩ := map_some hv; cases h
  | eq _ _ _ x y => simp only [PO.ev] at hv; obtain ⟨_, _, hv⟩ := bind_some hv; obtain ⟨_, _, hv⟩ := bind_some hv; obtain ⟨_, _, h⟩ := map_some hv; cases h
  | eqnil _ x => simp only [PO.ev] at hv; obtain ⟨_, _, hv⟩ := bind_some hv; obtain ⟨_, _, h⟩ := map_some hv; cases h
  | conv k x =>
    cases k with
    | str => simp only [PO.ev] at hv; obtain ⟨_, _, hv⟩ := bind_some hv; obtain ⟨_, _, hv⟩ := bind_some hv; obtain ⟨_, _, h⟩ := map_some hv; cases h
    | _ => simp only [PO.ev] at hv; split at hv <;> cases hv
  | len _ x =>
    simp only [PO.ev] at hv
    repeat' split at hv
    all_goals cases hv
  | cutS x lo hi => 
    simp only [PO.ev] at hv
    split at hv
    · obtain ⟨_, _, hv⟩ := bind_some hv; obtain ⟨_, _, hv⟩ := bind_some hv; obtain ⟨_, _, h⟩ := map_some hv; cases h
    · cases hv
  | slice _ x lo hi mx =>
    simp only [PO.ev] at hv
    split at hv
    · obtain ⟨_, _, hv⟩ := bind_some hv; obtain ⟨_, _, hv⟩ := bind_some hv; obtain ⟨_, _, hv⟩ := bind_some hv
      split at hv
      · obtain ⟨_, _, h⟩ := map_some hv; cases h
      · cases hv
    · split at hv
      · split at hv
        · obtain ⟨_, _, hv⟩ := bind_some hv; obtain ⟨_, _, hv⟩ := bind_some hv; obtain ⟨_, _, hv⟩ := bind_some hv; obtain ⟨_, _, h⟩ := map_some hv; cases h
        · cases hv
      · cases hv
    · cases hv
  | lookup _ _ _ _ m k =>
    simp only [PO.ev] at hv; obtain ⟨_, _, hv⟩ := bind_some hv; obtain ⟨_, _, hv⟩ := bind_some hv
    split at hv
    · obtain ⟨_, _, h⟩ := map_some hv; cases h
    · cases hv
  | mxmn _ x xs => simp only [PO.ev] at hv; obtain ⟨_, _, hv⟩ := bind_some hv; obtain ⟨_, _, hv⟩ := bind_some hv; obtain ⟨_, _, h⟩ := map_some hv; cases h
  | mkfn _ a b => simp only [PO.ev] at hv; obtain ⟨_, _, hv⟩ := bind_some hv; obtain ⟨_, _, h⟩ := map_some hv; cases h
end Go.HL
