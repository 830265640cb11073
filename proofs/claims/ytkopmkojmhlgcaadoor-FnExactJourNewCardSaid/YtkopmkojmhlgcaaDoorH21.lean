/- A stepping machine for the abstract level: what is left to do is data, so that the simplifier goes on one instruction at a time. Conditions: none. -/
import Derived.Test.YtkopmkojmhlgcaaDoorH20
namespace Go.HL
variable {T : FuncId → Spec} {e : Env} {h : HH} {P : Program}

inductive FrK where
  | seq (b : HC)
  | blk (id : Nat)

abbrev HQ := HX → Env → HH → Prop

def popK (T : FuncId → Spec) : HX → List FrK → HQ → Env → HH → Prop
  | x, [], Q, e, h => Q x e h
  | .normal, .seq b :: k, Q, e, h => hwp T b (fun x e h => popK T x k Q e h) e h
  | .exit j, .seq _ :: k, Q, e, h => popK T (.exit j) k Q e h
  | .ret, .seq _ :: k, Q, e, h => popK T .ret k Q e h
  | .normal, .blk _ :: k, Q, e, h => popK T .normal k Q e h
  | .exit j, .blk id :: k, Q, e, h => if j = id then popK T .normal k Q e h else popK T (.exit j) k Q e h
  | .ret, .blk _ :: k, Q, e, h => popK T .ret k Q e h

/-- code ahead of what is left -/
def go (T : FuncId → Spec) (c : HC) (k : List FrK) (Q : HQ) (e : Env) (h : HH) : Prop := hwp T c (fun x e h => popK T x k Q e h) e h

/-- what is left of a region -/
inductive Rest where
  | l (is : List HG)
  | d (t : DT)

def goR (T : FuncId → Spec) (r : Rest) (k : List FrK) (Q : HQ) (e : Env) (h : HH) : Prop := match r with
  | .l is => hreg T is (popK T .normal k Q) e h
  | .d t => hDT T t (popK T .normal k Q) e h
def goC (T : FuncId → Spec) (o : Option HV) (a b : HC) (k : List FrK) (Q : HQ) (e : Env) (h : HH) : Prop := oK o fun v => match v with
  | .bool r => if r then go T a k Q e h else go T b k Q e h
  | _ => False
def stepG (T : FuncId → Spec) (i : HG) (r : Rest) (k : List FrK) (Q : HQ) (e : Env) (h : HH) : Prop := hG T i (goR T r k Q) e h
def goG (T : FuncId → Spec) (g : TV) (want : Bool) (d : Option Nat) (i : HI) (r : Rest) (k : List FrK) (Q : HQ) (e : Env) (h : HH) : Prop :=
  ∃ b, g = .val (.bool b) ∧ ((b = want → hI T i (goR T r k Q) e h) ∧ (b ≠ want → goR T r k Q (e.setO d .bad) h))
def stepP (T : FuncId → Spec) (o : Option TV) (d : Nat) (r : Rest) (k : List FrK) (Q : HQ) (e : Env) (h : HH) : Prop := oK o fun v => goR T r k Q (e.set d v) h
def stepB (T : FuncId → Spec) (o : Option HV) (d n : Nat) (r : Rest) (k : List FrK) (Q : HQ) (e : Env) (h : HH) : Prop := oK o fun v => v.cells.length = n ∧ goR T r k Q (e.al d v.cells) h
def stepN (T : FuncId → Spec) (o : Option (HObj × HV)) (d : Nat) (r : Rest) (k : List FrK) (Q : HQ) (e : Env) (h : HH) : Prop := oK o fun x => goR T r k Q (e.set d (.val x.2)) (h.new x.1)
def stepS (T : FuncId → Spec) (o : Option (Env × HH)) (r : Rest) (k : List FrK) (Q : HQ) : Prop := oK o fun x => goR T r k Q x.1 x.2
def stepA (T : FuncId → Spec) (o : Option (HV × HH)) (d : Nat) (r : Rest) (k : List FrK) (Q : HQ) (e : Env) : Prop := oK o fun x => goR T r k Q (e.set d (.val x.1)) x.2
/-- a call: the callee's law is to be given -/
def callK (T : FuncId → Spec) (f : FuncId) (vs : List HV) (d : Option Nat) (r : Rest) (k : List FrK) (Q : HQ) (e : Env) (h : HH) : Prop := T f vs h fun x h' => goR T r k Q (e.setO d (.val x)) h'
def stepC (T : FuncId → Spec) (f : FuncId) (o : Option (List HV)) (d : Option Nat) (r : Rest) (k : List FrK) (Q : HQ) (e : Env) (h : HH) : Prop := oK o fun vs => callK T f vs d r k Q e h
def stepV (T : FuncId → Spec) (fs : List FuncId) (g : Option HV) (o : Option (List HV)) (d : Option Nat) (r : Rest) (k : List FrK) (Q : HQ) (e : Env) (h : HH) : Prop :=
  oK o fun vs => ∃ f first caps, g = some (.fn f first caps) ∧ f ∈ fs ∧ callK T f (first ++ vs ++ caps) d r k Q e h
def mapV (h : HH) (ag : Bool) (ks : List Leaf) (m kk v : HV) : Option HH := if keyOk ag ks kk then match m with
  | .map id => match h.get id with
    | some (.map es) => (setE ag ks kk v es).map fun es' => h.put id (.map es')
    | _ => none
  | _ => none
  else none

theorem wp_go {f : HF} {args : List HV} {Q : HV → HH → Prop} (hl : args.length = f.nargs) (hg : go T f.body [] (fun x e h => match x with
    | .normal | .ret => oK (rvs e f.results) fun l => Q (resV l) h
    | _ => False) (env0 args) h) : f.wp T args h Q := by
  refine ⟨hl, ?_⟩
  unfold go at hg
  have : (fun x e h => popK T x [] (fun x e h => match x with
    | .normal | .ret => oK (rvs e f.results) fun l => Q (resV l) h
    | _ => False) e h) = (fun x e h => match x with
    | .normal | .ret => oK (rvs e f.results) fun l => Q (resV l) h
    | _ => False) := by funext x e h; simp only [popK]
  rw [this] at hg
  exact hg

section
variable {k : List FrK} {Q : HQ} {r : Rest}
theorem popK_nil {x : HX} : popK T x [] Q e h = Q x e h := by simp only [popK]
theorem popK_seq {b : HC} : popK T .normal (.seq b :: k) Q e h = go T b k Q e h := by simp only [popK, go]
theorem popK_seq_exit {b : HC} {j : Nat} : popK T (.exit j) (.seq b :: k) Q e h = popK T (.exit j) k Q e h := by simp only [popK]
theorem popK_seq_ret {b : HC} : popK T .ret (.seq b :: k) Q e h = popK T .ret k Q e h := by simp only [popK]
theorem popK_blk {id : Nat} : popK T .normal (.blk id :: k) Q e h = popK T .normal k Q e h := by simp only [popK]
theorem popK_blk_ret {id : Nat} : popK T .ret (.blk id :: k) Q e h = popK T .ret k Q e h := by simp only [popK]
theorem popK_blk_exit {j id : Nat} : popK T (.exit j) (.blk id :: k) Q e h = if j = id then popK T .normal k Q e h else popK T (.exit j) k Q e h := by simp only [popK]

theorem go_skip : go T .skip k Q e h = popK T .normal k Q e h := rfl
theorem go_ret : go T .ret k Q e h = popK T .ret k Q e h := rfl
theorem go_exit {id : Nat} : go T (.exit id) k Q e h = popK T (.exit id) k Q e h := rfl
theorem go_reg {is : List HG} : go T (.reg is) k Q e h = goR T (.l is) k Q e h := rfl
theorem go_dt {ws : List Nat} {t : DT} : go T (.dt ws t) k Q e h = goR T (.d t) k Q (e.forget ws) h := rfl
theorem go_scope {b : HC} : go T (.scope b) k Q e h = go T b k Q e h := rfl
theorem go_seq {a b : HC} : go T (.seq a b) k Q e h = go T a (.seq b :: k) Q e h := by
  unfold go
  simp only [hwp]
  congr 1
  funext x e h
  cases x <;> simp only [popK]
theorem go_block {id : Nat} {b : HC} : go T (.block id b) k Q e h = go T b (.blk id :: k) Q e h := by
  unfold go
  simp only [hwp]
  congr 1
  funext x e h
  cases x <;> simp only [popK]
theorem go_cond {c : O} {a b : HC} : go T (.cond c a b) k Q e h = goC T (e.v c) a b k Q e h := rfl
theorem goC_true {a b : HC} : goC T (some (.bool true)) a b k Q e h = go T a k Q e h := by simp [goC]
theorem goC_false {a b : HC} : goC T (some (.bool false)) a b k Q e h = go T b k Q e h := by simp [goC]

/-- a loop: an invariant with a number that falls -/
theorem go_loop {b : HC} (I : Nat → Env → HH → Prop) (n : Nat) (h0 : I n e h) (hs : ∀ n e h, I n e h → go T b [] (fun x e h => match x with
    | .normal => ∃ m, m < n ∧ I m e h
    | x => popK T x k Q e h) e h) : go T (.loop b) k Q e h := by
  refine ⟨I, ⟨n, h0⟩, fun n e h hi => ?_⟩
  have := hs n e h hi
  unfold go at this
  have hx : (fun x e h => popK T x [] (fun x e h => match x with
    | .normal => ∃ m, m < n ∧ I m e h
    | x => popK T x k Q e h) e h) = (fun x e h => match x with
    | .normal => ∃ m, m < n ∧ I m e h
    | x => popK T x k Q e h) := by funext x e h; simp only [popK]
  rw [hx] at this
  exact this

theorem goR_nil : goR T (.l []) k Q e h = popK T .normal k Q e h := rfl
theorem goR_cons {i : HG} {is : List HG} : goR T (.l (i :: is)) k Q e h = stepG T i (.l is) k Q e h := rfl
theorem goR_done : goR T (.d .done) k Q e h = popK T .normal k Q e h := rfl
theorem goR_take {i : HG} {t : DT} : goR T (.d (.take i t)) k Q e h = stepG T i (.d t) k Q e h := rfl
theorem goR_takeL {p : O} {i : HG} {t : DT} : goR T (.d (.takeL p i t)) k Q e h = ((∃ l f, e.ev p = .loc l f) ∧ stepG T i (.d t) k Q e h) := rfl
theorem goR_alt {i : HG} {t o : DT} : goR T (.d (.alt i t o)) k Q e h = (stepG T i (.d t) k Q e h ∧ goR T (.d o) k Q e h) := rfl
theorem goR_stop : goR T (.d .stop) k Q e h = True := rfl
theorem loc_ex {l f : Nat} : (∃ l' f', TV.loc l f = .loc l' f') = True := by simp

theorem stepG_pur {o : Option Nat} {d : Nat} {op : PO} : stepG T ⟨none, o, .pur d op⟩ r k Q e h = stepP T (op.ev e h) d r k Q e h := rfl
theorem stepG_alloc {o : Option Nat} {d : Nat} {cs : List HV} : stepG T ⟨none, o, .alloc d cs⟩ r k Q e h = goR T r k Q (e.al d cs) h := rfl
theorem stepG_box {o : Option Nat} {d n : Nat} {x : O} : stepG T ⟨none, o, .box d n x⟩ r k Q e h = stepB T (e.v x) d n r k Q e h := rfl
theorem stepG_new {o : Option Nat} {d : Nat} {op : NO} : stepG T ⟨none, o, .new d op⟩ r k Q e h = stepN T (op.ev e h.next) d r k Q e h := rfl
theorem stepG_store {o : Option Nat} {n : Nat} {p x : O} : stepG T ⟨none, o, .store n p x⟩ r k Q e h = stepS T ((e.v x).bind fun v => hstore e h n (e.ev p) v) r k Q := by
  unfold stepG stepS hG hI
  simp only
  cases e.v x <;> simp
theorem stepG_app {o : Option Nat} {d sz bytes : Nat} {s x : O} : stepG T ⟨none, o, .app d sz bytes s x⟩ r k Q e h = stepA T ((e.v s).bind fun a => (e.v x).bind fun b => (h.elems sz b).bind fun news => appV h sz bytes a news) d r k Q e := by
  unfold stepG stepA hG hI
  simp only
  cases e.v s with
  | none => simp
  | some a =>
    cases e.v x with
    | none => simp
    | some b => cases hx : h.elems sz b <;> simp [hx]
theorem stepG_call {o d : Option Nat} {f : FuncId} {xs : List O} : stepG T ⟨none, o, .call d f xs⟩ r k Q e h = stepC T f (e.vs xs) d r k Q e h := rfl
theorem stepG_callv {o d : Option Nat} {fs : List FuncId} {x : O} {xs : List O} : stepG T ⟨none, o, .callv d fs x xs⟩ r k Q e h = stepV T fs (e.v x) (e.vs xs) d r k Q e h := rfl
theorem stepG_mapupd {o : Option Nat} {ag : Bool} {ks : List Leaf} {m kk x : O} : stepG T ⟨none, o, .mapupd ag ks m kk x⟩ r k Q e h = stepS T ((e.v kk).bind fun a => (e.v x).bind fun v => (e.v m).bind fun q => (mapV h ag ks q a v).map fun h' => (e, h')) r k Q := by
  unfold stepG stepS hG hI mapV
  simp only
  cases e.v kk with
  | none => simp
  | some a =>
    cases e.v x with
    | none => simp
    | some v =>
      cases e.v m with
      | none => simp
      | some q =>
        simp only [oK_some, Option.bind_some, Option.some.injEq]
        by_cases hk : keyOk ag ks a = true
        · simp only [hk, true_and, if_true]
          cases q with
          | map id =>
            simp only [HV.map.injEq]
            cases hg : h.get id with
            | none => simp [hg]
            | some ob =>
              cases ob with
              | map es =>
                cases hs : setE ag ks a v es with
                | none => simp [hg, hs]
                | some es' => simp [hg, hs]
              | _ => simp [hg]
          | _ => simp
        · simp [hk]
theorem stepG_guard {g : Nat} {want : Bool} {o : Option Nat} {i : HI} : stepG T ⟨some (g, want), o, i⟩ r k Q e h = goG T (e.t g) want o i r k Q e h := rfl
theorem goG_tt {o : Option Nat} {i : HI} : goG T (.val (.bool true)) true o i r k Q e h = stepG T ⟨none, o, i⟩ r k Q e h := by simp [goG, stepG, hG]
theorem goG_ff {o : Option Nat} {i : HI} : goG T (.val (.bool false)) false o i r k Q e h = stepG T ⟨none, o, i⟩ r k Q e h := by simp [goG, stepG, hG]
theorem goG_tf {o : Option Nat} {i : HI} : goG T (.val (.bool true)) false o i r k Q e h = goR T r k Q (e.setO o .bad) h := by simp [goG]
theorem goG_ft {o : Option Nat} {i : HI} : goG T (.val (.bool false)) true o i r k Q e h = goR T r k Q (e.setO o .bad) h := by simp [goG]

theorem stepP_some {v : TV} {d : Nat} : stepP T (some v) d r k Q e h = goR T r k Q (e.set d v) h := by simp [stepP]
theorem stepB_some {v : HV} {d n : Nat} : stepB T (some v) d n r k Q e h = (v.cells.length = n ∧ goR T r k Q (e.al d v.cells) h) := by simp [stepB]
theorem stepN_some {x : HObj} {v : HV} {d : Nat} : stepN T (some (x, v)) d r k Q e h = goR T r k Q (e.set d (.val v)) (h.new x) := by simp [stepN]
theorem stepS_some {e' : Env} {h' : HH} : stepS T (some (e', h')) r k Q = goR T r k Q e' h' := by simp [stepS]
theorem stepA_some {v : HV} {h' : HH} {d : Nat} : stepA T (some (v, h')) d r k Q e = goR T r k Q (e.set d (.val v)) h' := by simp [stepA]
theorem stepC_some {f : FuncId} {vs : List HV} {d : Option Nat} : stepC T f (some vs) d r k Q e h = callK T f vs d r k Q e h := by simp [stepC]
theorem stepV_some {fs : List FuncId} {f : FuncId} {a b vs : List HV} {d : Option Nat} : stepV T fs (some (.fn f a b)) (some vs) d r k Q e h = (f ∈ fs ∧ callK T f (a ++ vs ++ b) d r k Q e h) := by
  unfold stepV
  rw [oK_some]
  apply propext
  constructor
  · rintro ⟨f', a', b', h1, h2, h3⟩; cases h1; exact ⟨h2, h3⟩
  · rintro ⟨h2, h3⟩; exact ⟨f, a, b, rfl, h2, h3⟩

/-- a call by the callee's law -/
theorem call_of {f : FuncId} {vs : List HV} {d : Option Nat} (hc : T f vs h fun x h' => goR T r k Q (e.setO d (.val x)) h') : callK T f vs d r k Q e h := hc
end
end Go.HL
