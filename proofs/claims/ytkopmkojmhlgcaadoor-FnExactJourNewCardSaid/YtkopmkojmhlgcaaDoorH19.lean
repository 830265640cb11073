/- Regions whose order is drawn: a tree of what may come first. Conditions: none. -/
import Derived.Test.YtkopmkojmhlgcaaDoorH18
import Derived.Orders
namespace Go.HL
variable {e e' : Env} {h h' : HH} {P : Program}

theorem hI_mono {i : HI} {K K' : Env → HH → Prop} (hk : ∀ e h, K e h → K' e h) (hi : hI (TS P) i K e h) : hI (TS P) i K' e h := by
  cases i with
  | pur d op => obtain ⟨v, a, b⟩ := hi; exact ⟨v, a, hk _ _ b⟩
  | alloc d cs => exact hk _ _ hi
  | box d n x => obtain ⟨v, a, b, c⟩ := hi; exact ⟨v, a, b, hk _ _ c⟩
  | new d op => obtain ⟨v, a, b⟩ := hi; exact ⟨v, a, hk _ _ b⟩
  | store n p x => obtain ⟨v, a, r, b, c⟩ := hi; exact ⟨v, a, r, b, hk _ _ c⟩
  | app d sz b s x => obtain ⟨v, a, u, b, l, c, r, d, g⟩ := hi; exact ⟨v, a, u, b, l, c, r, d, hk _ _ g⟩
  | call d f xs => obtain ⟨v, a, b⟩ := hi; exact ⟨v, a, b.mono fun _ _ => hk _ _⟩
  | callv d fs x xs => obtain ⟨v, a, f, x, y, b, c, g⟩ := hi; exact ⟨v, a, f, x, y, b, c, g.mono fun _ _ => hk _ _⟩
  | mapupd ag ks m k x => obtain ⟨v, a, u, b, c, id, es, d, g, es', j, l⟩ := hi; exact ⟨v, a, u, b, c, id, es, d, g, es', j, hk _ _ l⟩
  | next d it =>
    obtain ⟨id, m, seen, a, b, c⟩ := hi
    refine ⟨id, m, seen, a, b, ?_⟩
    cases m with
    | none => exact hk _ _ c
    | some m => obtain ⟨es, c, d, g⟩ := c; exact ⟨es, c, fun x => hk _ _ (d x), fun i k v x y => hk _ _ (g i k v x y)⟩

theorem hG_mono {i : HG} {K K' : Env → HH → Prop} (hk : ∀ e h, K e h → K' e h) (hi : hG (TS P) i K e h) : hG (TS P) i K' e h := by
  unfold hG at hi ⊢
  split at hi
  · rename_i hg; exact hI_mono hk hi
  · obtain ⟨b, h1, h2, h3⟩ := hi
    exact ⟨b, h1, fun x => hI_mono hk (h2 x), fun x => hk _ _ (h3 x)⟩

def HI.light : HI → Bool
  | .pur _ _ | .alloc _ _ | .box _ _ _ => true
  | _ => false
def HI.step (i : HI) (e : Env) (h : HH) : Option (TV × Option (List HV)) := match i with
  | .pur d op => (op.ev e h).map fun v => (v.clear d, none)
  | .alloc d cs => some (.loc d 0, some cs)
  | .box d n x => (e.v x).bind fun v => if v.cells.length = n then some (.loc d 0, some v.cells) else none
  | _ => none
def HG.step (i : HG) (e : Env) (h : HH) : Option (TV × Option (List HV)) := match i.g with
  | none => i.i.step e h
  | some (g, want) => match e.t g with
    | .val (.bool b) => if b = want then i.i.step e h else some (.bad, none)
    | _ => none

theorem hI_step {i : HI} (hl : i.light = true) {K : Env → HH → Prop} : hI (TS P) i K e h ↔ ∃ d v cl, i.dst = some d ∧ i.step e h = some (v, cl) ∧ K (e.pt d v cl) h := by
  cases i with
  | pur d op =>
    constructor
    · rintro ⟨v, a, b⟩
      exact ⟨d, v.clear d, none, rfl, by simp only [HI.step, a, Option.map_some], b⟩
    · rintro ⟨d', v, cl, h1, h2, h3⟩
      cases h1
      obtain ⟨u, h4, h5⟩ := map_some h2
      cases h5
      exact ⟨u, h4, h3⟩
  | alloc d cs =>
    constructor
    · intro a
      exact ⟨d, _, _, rfl, rfl, a⟩
    · rintro ⟨d', v, cl, h1, h2, h3⟩
      cases h1; cases h2
      exact h3
  | box d n x =>
    constructor
    · rintro ⟨v, a, b, c⟩
      exact ⟨d, _, _, rfl, by simp only [HI.step, a, Option.bind_some, if_pos b], c⟩
    · rintro ⟨d', v, cl, h1, h2, h3⟩
      cases h1
      obtain ⟨u, h4, h5⟩ := bind_some h2
      split at h5
      · rename_i hc; cases h5; exact ⟨u, h4, hc, h3⟩
      · cases h5
  | _ => cases hl

theorem hG_step {i : HG} (hl : i.i.light = true) (hd : i.d = i.i.dst) {K : Env → HH → Prop} : hG (TS P) i K e h ↔ ∃ d v cl, i.d = some d ∧ i.step e h = some (v, cl) ∧ K (e.pt d v cl) h := by
  unfold hG HG.step
  cases hg : i.g with
  | none => rw [hd]; exact hI_step hl
  | some gw =>
    obtain ⟨g, want⟩ := gw
    simp only
    constructor
    · rintro ⟨b, h1, h2, h3⟩
      rw [h1]
      by_cases hb : b = want
      · obtain ⟨d, v, cl, h4, h5, h6⟩ := (hI_step hl).1 (h2 hb)
        exact ⟨d, v, cl, hd.trans h4, by simp only [if_pos hb]; exact h5, h6⟩
      · have h4 := h3 hb
        have hx : ∃ d, i.d = some d := by
          rw [hd]
          cases hi : i.i with
          | pur d _ => exact ⟨d, rfl⟩
          | alloc d _ => exact ⟨d, rfl⟩
          | box d _ _ => exact ⟨d, rfl⟩
          | _ => rw [hi] at hl; cases hl
        obtain ⟨d, hx⟩ := hx
        rw [hx] at h4
        exact ⟨d, .bad, none, hx, by simp only [if_neg hb], h4⟩
    · rintro ⟨d, v, cl, h1, h2, h3⟩
      split at h2
      · rename_i b hb
        refine ⟨b, hb, fun hw => ?_, fun hw => ?_⟩
        · rw [if_pos hw] at h2
          exact (hI_step hl).2 ⟨d, v, cl, hd.symm.trans h1, h2, h3⟩
        · rw [if_neg hw] at h2
          cases h2
          rw [h1]
          exact h3
      · cases h2

def HI.isLd : HI → Bool
  | .pur _ (.load _ _ _) => true
  | _ => false
def HI.isRd : HI → Bool
  | .pur _ op => op.rd
  | _ => false

/-- it loads from a local variable -/
def HI.Loc (i : HI) (e : Env) : Prop := ∃ d g m p l f, i = .pur d (.load g m p) ∧ e.ev p = .loc l f

theorem HI.step_past {i : HI} (ha : Ag i.us e e') (hlo : i.isLd = true → AgL i.us e e') {L : Bool} (hL : L = true → i.Loc e) (hh : i.isRd = true → L = false → HLe h h') {x : TV × Option (List HV)} (hs : i.step e h = some x) : i.step e' h' = some x := by
  cases i with
  | pur d op =>
    simp only [HI.step] at hs ⊢
    obtain ⟨v, h1, h2⟩ := map_some hs
    have h3 : op.ev e' h = some v := by
      rw [PO.ev_ag ha fun ⟨g, m, p, hx⟩ => by subst hx; exact hlo rfl]; exact h1
    have h4 : op.ev e' h' = some v := by
      cases L with
      | true =>
        obtain ⟨d', g, m, p, l, f, hi, hp⟩ := hL rfl
        cases hi
        have hp' : e'.ev p = .loc l f := by rw [Ag.ev (o := p) ha]; exact hp
        simp only [PO.ev, hp', HH.loadP] at h3 ⊢
        exact h3
      | false =>
        by_cases hr : op.rd = true
        · exact PO.ev_le (hh hr rfl) h3
        · rw [PO.ev_still (h := h) (by simpa using hr)]; exact h3
    rw [h4]; exact hs ▸ (by rw [h1])
  | alloc d cs => exact hs
  | box d n x =>
    simp only [HI.step] at hs ⊢
    rw [Ag.v (o := x) ha]; exact hs
  | _ => cases hs

theorem HG.step_past {i : HG} (ha : Ag i.us e e') (hlo : i.i.isLd = true → AgL i.us e e') {L : Bool} (hL : L = true → i.i.Loc e) (hh : i.i.isRd = true → L = false → HLe h h') {x : TV × Option (List HV)} (hs : i.step e h = some x) : i.step e' h' = some x := by
  unfold HG.step at hs ⊢
  have ha' : Ag i.i.us e e' := ha.right
  have hlo' : i.i.isLd = true → AgL i.i.us e e' := fun hl t ht => hlo hl t (List.mem_append_right _ ht)
  cases hg : i.g with
  | none => rw [hg] at hs; exact HI.step_past ha' hlo' hL hh hs
  | some gw =>
    obtain ⟨g, want⟩ := gw
    rw [hg] at hs
    simp only at hs ⊢
    have hgm : g ∈ i.us := by simp [HG.us, hg]
    rw [ha g hgm]
    split at hs
    · split at hs
      · rename_i hb hw; rw [if_pos hw]; exact HI.step_past ha' hlo' hL hh hs
      · rename_i hb hw; rw [if_neg hw]; exact hs
    · cases hs

theorem HI.step_loc {i : HI} {v : TV} {cl : Option (List HV)} (hs : i.step e h = some (v, cl)) {l f : Nat} (hv : v = .loc l f) : (∃ t f', e.t t = .loc l f') ∨ (i.isAl = true ∧ i.dst = some l) := by
  cases i with
  | pur d op =>
    obtain ⟨u, h1, h2⟩ := map_some hs
    cases h2
    obtain ⟨h3, _⟩ := TV.clear_loc_of hv
    subst h3
    exact .inl (PO.ev_loc h1)
  | alloc d cs => cases hs; cases hv; exact .inr ⟨rfl, rfl⟩
  | box d n x =>
    obtain ⟨u, h1, h2⟩ := bind_some hs
    split at h2
    · cases h2; cases hv; exact .inr ⟨rfl, rfl⟩
    · cases h2
  | _ => cases hs

theorem HG.step_loc {i : HG} (hd : i.d = i.i.dst) {v : TV} {cl : Option (List HV)} (hs : i.step e h = some (v, cl)) {l f : Nat} (hv : v = .loc l f) : (∃ t f', e.t t = .loc l f') ∨ i.d = some l := by
  unfold HG.step at hs
  have go : i.i.step e h = some (v, cl) → (∃ t f', e.t t = .loc l f') ∨ i.d = some l := fun hs => by
    rcases HI.step_loc hs hv with h | ⟨_, h⟩
    · exact .inl h
    · exact .inr (hd.trans h)
  split at hs
  · exact go hs
  · split at hs
    · split at hs
      · exact go hs
      · cases hs; cases hv
    · cases hs

/-- i may go ahead of j -/
def HG.comm (L : Bool) (i j : HG) : Bool := match i.d with
  | none => false
  | some d => !j.us.contains d && j.d != some d && (match j.d with | some d' => !i.us.contains d' | none => true) && (!i.i.isLd || !j.i.isSt) && (!i.i.isRd || L || j.i.keeps)

theorem hG_swap {i j : HG} {L : Bool} (hi : i.d = i.i.dst) (hj : j.d = j.i.dst) (hl : i.i.light = true) (hc : i.comm L j = true) (ni : ∀ t l f, e.t t = .loc l f → i.d ≠ some l) (nj : ∀ t l f, e.t t = .loc l f → j.d ≠ some l) (nx : h.get h.next = none)
    (hL : L = true → i.i.Loc e) {K : Env → HH → Prop} (hk : hG (TS P) i (hG (TS P) j K) e h) : hG (TS P) j (fun e' h' => hG (TS P) i K e' h' ∧ Left j e h e' h' ∧ (L = true → i.i.Loc e')) e h := by
  obtain ⟨d, v, cl, h1, h2, h3⟩ := (hG_step hl hi).1 hk
  simp only [HG.comm, h1, Bool.and_eq_true, Bool.not_eq_true', bne_iff_ne, ne_eq, Bool.or_eq_true] at hc
  obtain ⟨⟨⟨⟨c1, c2⟩, c3⟩, c4⟩, c5⟩ := hc
  have hp : Past (fun e => e.pt d v cl) j e := .pt (by simpa using c1) c2 (fun f d' hd' hv => by
    rcases HG.step_loc hi h2 hv with ⟨t, f', ht⟩ | hx
    · exact nj t d' f' ht hd'
    · rw [h1] at hx; cases hx; exact c2 hd') (fun t f ht => ni t d f ht h1)
  refine hG_mono ?_ (hG_past hj hp h3)
  rintro e' h' ⟨h4, hleft⟩
  have ag : Ag i.us e e' := by
    intro t ht
    have hn : j.d ≠ some t := by
      intro hx
      rw [hx] at c3
      simp at c3
      exact c3 ht
    rcases hleft.t t hn with h | ⟨d', f, a, b, c⟩
    · exact h
    · exact absurd a (nj t d' f b)
  have agl : i.i.isLd = true → AgL i.us e e' := by
    intro hld t ht l f hf
    have hst : j.i.isSt = false := by rcases c4 with h | h <;> simp_all
    exact hleft.l hst l (nj t l f hf)
  refine ⟨(hG_step hl hi).2 ⟨d, v, cl, h1, HG.step_past ag agl hL ?_ h2, h4⟩, hleft, ?_⟩
  · intro hr hLf
    have hk : j.i.keeps = true := by
      rcases c5 with (h | h) | h
      · rw [hr] at h; cases h
      · rw [hLf] at h; cases h
      · exact h
    exact hleft.hp hk nx
  · intro hLt
    obtain ⟨d', g, m, p, l, f, ha, hb⟩ := hL hLt
    refine ⟨d', g, m, p, l, f, ha, ?_⟩
    rw [Ag.ev (o := p) (e := e)]
    · exact hb
    · intro t ht
      refine ag t (List.mem_append_right _ ?_)
      rw [ha]; exact ht

section
variable (P) (ops : Array Oper) (is : List HG)

/-- whatever comes up next -/
def hAny (K : Env → HH → Prop) : Nat → Array Bool → Env → HH → Prop
  | 0, listed, e, h => Region.ready .any ops listed = [] ∧ K e h
  | k + 1, listed, e, h => h.get h.next = none → (Region.ready .any ops listed = [] → K e h) ∧
      ∀ i ∈ Region.ready .any ops listed, ∀ g, is[i]? = some g → hG (TS P) g (hAny K k (listed.setIfInBounds i true)) e h

/-- no address of a local variable that is still to be made anew -/
def NL (listed : Array Bool) (e : Env) : Prop := ∀ t l f, e.t t = .loc l f → ∀ j g, is[j]? = some g → listed.getD j false = false → g.d ≠ some l

/-- i may be taken ahead of whatever else may come up -/
def takeOk (L : Bool) (listed : Array Bool) (i : Nat) : Bool := match is[i]? with
  | none => false
  | some g => g.i.light && (List.range ops.size).all fun j => j == i || listed.getD j false || match ops[j]?, is[j]? with
    | some o, some g' => o.after.any (fun e => Region.binds .any e && e.on == i) || g.comm L g'
    | _, _ => true

/-- the rows' destinations are those of the instructions; local variables are made once -/
def rowOk : Bool := is.all (fun g => decide (g.d = g.i.dst)) && (List.range is.length).all fun j => match is[j]? with
  | some g => !g.i.isAl || (List.range is.length).all fun m => m == j || match is[m]? with
    | some g' => decide (g'.d ≠ g.d)
    | none => true
  | none => true
end

section
variable {ops : Array Oper} {is : List HG} {K : Env → HH → Prop}

theorem rowOk_dst (hr : rowOk is = true) {j : Nat} {g : HG} (hj : is[j]? = some g) : g.d = g.i.dst := by
  simp only [rowOk, Bool.and_eq_true, List.all_eq_true, decide_eq_true_eq] at hr
  exact hr.1 g (List.mem_of_getElem? hj)

theorem rowOk_al (hr : rowOk is = true) {j m : Nat} {g g' : HG} (hj : is[j]? = some g) (ha : g.i.isAl = true) (hm : is[m]? = some g') (hne : m ≠ j) : g'.d ≠ g.d := by
  simp only [rowOk, Bool.and_eq_true, List.all_eq_true] at hr
  have hlt : ∀ {k : Nat} {g : HG}, is[k]? = some g → k < is.length := fun h => (List.getElem?_eq_some_iff.1 h).1
  have h1 := hr.2 j (List.mem_range.2 (hlt hj))
  rw [hj] at h1
  simp only [ha, Bool.not_true, Bool.false_or, List.all_eq_true] at h1
  have h2 := h1 m (List.mem_range.2 (hlt hm))
  rw [hm] at h2
  simpa [hne] using h2

theorem NL.next (hr : rowOk is = true) {listed : Array Bool} (hn : NL is listed e) {j : Nat} {g : HG} (hj : is[j]? = some g) (hl : listed.getD j true = false) (hleft : Left g e h e' h') : NL is (listed.setIfInBounds j true) e' := by
  intro t l f ht m g' hm hml
  have hmj : m ≠ j := by
    rintro rfl
    have : m < listed.size := by
      rcases Nat.lt_or_ge m listed.size with h | h
      · exact h
      · simp [h] at hl
    simp [this] at hml
  rw [getD_set_ne false (Ne.symm hmj)] at hml
  rcases hleft.loc t l f ht with ⟨t', f', h1⟩ | ⟨ha, hd⟩
  · exact hn t' l f' h1 m g' hm hml
  · intro hx
    exact rowOk_al hr hj ha hm hmj (by rw [hx, hd])

theorem hAny_take (hr : rowOk is = true) {L : Bool} {i : Nat} {gi : HG} (hgi : is[i]? = some gi) (hl : gi.i.light = true) :
    ∀ (k : Nat) (listed : Array Bool) (e : Env) (h : HH),
      (∀ j oj gj, ops[j]? = some oj → is[j]? = some gj → j ≠ i → listed.getD j true = false → (∀ e ∈ oj.after, Region.binds .any e = true → e.on ≠ i) → gi.comm L gj = true) →
      i ∈ Region.ready .any ops listed → NL is listed e → (L = true → gi.i.Loc e) → hG (TS P) gi (hAny P ops is K k (listed.setIfInBounds i true)) e h → hAny P ops is K (k + 1) listed e h := by
  intro k
  have hdi := rowOk_dst hr hgi
  have unl : ∀ {j : Nat} {listed : Array Bool}, listed.getD j true = false → listed.getD j false = false := by
    intro j listed hj
    rcases Nat.lt_or_ge j listed.size with h | h
    · simp [h] at hj ⊢; exact hj
    · simp [h] at hj
  induction k with
  | zero =>
    intro listed e h _ hready _ _ hk nx
    refine ⟨fun h0 => (by rw [h0] at hready; cases hready), fun j hj g hg => ?_⟩
    by_cases hji : j = i
    · subst hji; rw [hgi] at hg; cases hg; exact hk
    · have h0 := ready_mono hj hji
      obtain ⟨d, v, cl, _, _, h3⟩ := (hG_step hl hdi).1 hk
      rw [h3.1] at h0
      cases h0
  | succ k ih =>
    intro listed e h hfree hready hnl hL hk nx
    refine ⟨fun h0 => (by rw [h0] at hready; cases hready), fun j hj g hg => ?_⟩
    by_cases hji : j = i
    · subst hji; rw [hgi] at hg; cases hg; exact hk
    · obtain ⟨hjl, oj, hoj, hall⟩ := mem_ready.1 hj
      have hil := (mem_ready.1 hready).1
      have hno : ∀ e ∈ oj.after, Region.binds .any e = true → e.on ≠ i := by
        intro e he hb hei
        have h1 := hall e he hb
        rw [hei, unl hil] at h1
        cases h1
      have hcm := hfree j oj g hoj hg hji hjl hno
      have hdj := rowOk_dst hr hg
      have hk2 : hG (TS P) gi (hG (TS P) g (hAny P ops is K k ((listed.setIfInBounds i true).setIfInBounds j true))) e h := by
        obtain ⟨d, v, cl, h1, h2, h3⟩ := (hG_step hl hdi).1 hk
        exact (hG_step hl hdi).2 ⟨d, v, cl, h1, h2, (h3 nx).2 j (ready_mono hj hji) g hg⟩
      refine hG_mono ?_ (hG_swap hdi hdj hl hcm (fun t l f ht => hnl t l f ht i gi hgi (unl hil)) (fun t l f ht => hnl t l f ht j g hg (unl hjl)) nx hL hk2)
      rintro e' h' ⟨h4, h5, h6⟩
      refine ih (listed.setIfInBounds j true) e' h' ?_ (ready_mono hready (Ne.symm hji)) (hnl.next hr hg hjl h5) h6 ?_
      · intro m om gm hm hgm hmi hml hmn
        refine hfree m om gm hm hgm hmi ?_ hmn
        by_cases hjm : j = m
        · subst hjm; exact hjl
        · rwa [getD_set_ne true hjm] at hml
      · rw [Array.setIfInBounds_comm _ _ hji]
        exact h4

theorem takeOk_spec {L : Bool} {listed : Array Bool} {i : Nat} {gi : HG} (hgi : is[i]? = some gi) (ht : takeOk ops is L listed i = true) : gi.i.light = true ∧
    ∀ j oj gj, ops[j]? = some oj → is[j]? = some gj → j ≠ i → listed.getD j true = false → (∀ e ∈ oj.after, Region.binds .any e = true → e.on ≠ i) → gi.comm L gj = true := by
  unfold takeOk at ht
  rw [hgi] at ht
  simp only [Bool.and_eq_true, List.all_eq_true, List.mem_range] at ht
  refine ⟨ht.1, fun j oj gj hoj hgj hji hjl hno => ?_⟩
  have h1 := ht.2 j (Array.getElem?_eq_some_iff.1 hoj).1
  have hjl' : listed.getD j false = false := by
    rcases Nat.lt_or_ge j listed.size with h | h
    · simp [h] at hjl ⊢; exact hjl
    · simp [h] at hjl
  rw [hoj, hgj, hjl'] at h1
  simp only [Bool.or_eq_true, beq_iff_eq, hji, Bool.false_eq_true, or_false, false_or] at h1
  rcases h1 with h1 | h1
  · obtain ⟨e, he, hb⟩ := Array.any_eq_true'.1 h1
    simp only [Bool.and_eq_true, beq_iff_eq] at hb
    exact absurd hb.2 (hno e he hb.1)
  · exact h1
end

/-- the load's operand, if it is among the addresses of local variables -/
def HI.ldOf (ls : List Nat) : HI → Option O
  | .pur _ (.load _ _ (.t p)) => if ls.contains p then some (.t p) else none
  | _ => none

def altsOf (f : Nat → Option DT) (g : Nat → Option HG) : List Nat → Option DT
  | [] => some .stop
  | i :: r => (g i).bind fun x => (f i).bind fun t => (altsOf f g r).map (.alt x t)

def mkDT (ops : Array Oper) (is : List HG) (ls : List Nat) : Nat → Array Bool → Option DT
  | 0, listed => if Region.ready .any ops listed = [] then some .done else none
  | k + 1, listed => match Region.ready .any ops listed with
    | [] => some .done
    | i :: rs => match (i :: rs).find? (takeOk ops is false listed) with
      | some j => (is[j]?).bind fun g => (mkDT ops is ls k (listed.setIfInBounds j true)).map (.take g)
      | none => match (i :: rs).find? (fun j => takeOk ops is true listed j && ((is[j]?).bind (·.i.ldOf ls)).isSome) with
        | some j => (is[j]?).bind fun g => (g.i.ldOf ls).bind fun p => (mkDT ops is ls k (listed.setIfInBounds j true)).map (.takeL p g)
        | none => altsOf (fun j => mkDT ops is ls k (listed.setIfInBounds j true)) (is[·]?) (i :: rs)

theorem mkDT_sound {ops : Array Oper} {is : List HG} {ls : List Nat} {K : Env → HH → Prop} (hr : rowOk is = true) : ∀ (k : Nat) (listed : Array Bool) (t : DT) (e : Env) (h : HH),
    mkDT ops is ls k listed = some t → NL is listed e → hDT (TS P) t K e h → hAny P ops is K k listed e h := by
  intro k
  induction k with
  | zero =>
    intro listed t e h ht hn hk
    simp only [mkDT] at ht
    split at ht
    · rename_i h0; cases ht; exact ⟨h0, hk⟩
    · cases ht
  | succ k ih =>
    intro listed t e h ht hn hk
    have go : ∀ {j : Nat} {g : HG} {r : DT}, is[j]? = some g → j ∈ Region.ready .any ops listed → mkDT ops is ls k (listed.setIfInBounds j true) = some r → hG (TS P) g (hDT (TS P) r K) e h → hG (TS P) g (hAny P ops is K k (listed.setIfInBounds j true)) e h := by
      intro j g r hg hj hm hk
      refine hG_mono ?_ (hG_left (rowOk_dst hr hg) hk)
      rintro e' h' ⟨h1, h2⟩
      exact ih _ r e' h' hm (hn.next hr hg (mem_ready.1 hj).1 h2) h1
    simp only [mkDT] at ht
    split at ht
    · rename_i h0
      cases ht
      exact fun _ => ⟨fun _ => hk, by rw [h0]; simp⟩
    · rename_i i rs h0
      split at ht
      · rename_i j hf
        obtain ⟨g, h1, ht⟩ := bind_some ht
        obtain ⟨r, h2, rfl⟩ := map_some ht
        have hj : j ∈ Region.ready .any ops listed := by rw [h0]; exact List.mem_of_find?_eq_some hf
        obtain ⟨h3, h4⟩ := takeOk_spec h1 (List.find?_some hf)
        exact hAny_take hr h1 h3 k listed e h h4 hj hn (fun h => by cases h) (go h1 hj h2 hk)
      · split at ht
        · rename_i j hf
          obtain ⟨g, h1, ht⟩ := bind_some ht
          obtain ⟨p, hp, ht⟩ := bind_some ht
          obtain ⟨r, h2, rfl⟩ := map_some ht
          have hj : j ∈ Region.ready .any ops listed := by rw [h0]; exact List.mem_of_find?_eq_some hf
          have hf' := List.find?_some hf
          simp only [Bool.and_eq_true] at hf'
          obtain ⟨h3, h4⟩ := takeOk_spec h1 hf'.1
          obtain ⟨⟨l, f, hlf⟩, hk⟩ := hk
          refine hAny_take hr h1 h3 k listed e h h4 hj hn (fun _ => ?_) (go h1 hj h2 hk)
          cases hgi : g.i with
          | pur d op =>
            rw [hgi] at hp
            cases op with
            | load ag m q =>
              cases q with
              | t q =>
                simp only [HI.ldOf] at hp
                split at hp
                · cases hp; exact ⟨d, ag, m, _, l, f, rfl, hlf⟩
                · cases hp
              | c _ => cases hp
            | _ => cases hp
          | _ => rw [hgi] at hp; cases hp
        · have alts : ∀ (rs : List Nat) (t : DT), altsOf (fun j => mkDT ops is ls k (listed.setIfInBounds j true)) (is[·]?) rs = some t → (∀ j ∈ rs, j ∈ Region.ready .any ops listed) → hDT (TS P) t K e h → ∀ j ∈ rs, ∀ g, is[j]? = some g → hG (TS P) g (hAny P ops is K k (listed.setIfInBounds j true)) e h := by
            intro rs
            induction rs with
            | nil => intro t _ _ _ j hj; cases hj
            | cons m rs ihr =>
              intro t ht hm hk j hj g hg
              simp only [altsOf] at ht
              obtain ⟨x, h1, ht⟩ := bind_some ht
              obtain ⟨r, h2, ht⟩ := bind_some ht
              obtain ⟨o, h3, rfl⟩ := map_some ht
              obtain ⟨hk1, hk2⟩ := hk
              rcases List.mem_cons.1 hj with rfl | hj
              · rw [h1] at hg; cases hg
                exact go h1 (hm _ (by simp)) h2 hk1
              · exact ihr o h3 (fun j hj => hm j (by simp [hj])) hk2 j hj g hg
          intro _
          refine ⟨fun hx => (by rw [hx] at h0; cases h0), fun j hj g hg => ?_⟩
          exact alts (i :: rs) t ht (fun j hj => by rw [h0]; exact hj) hk j (by rw [h0] at hj; exact hj) g hg
end Go.HL
