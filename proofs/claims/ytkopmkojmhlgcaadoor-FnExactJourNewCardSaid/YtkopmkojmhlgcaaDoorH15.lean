/- Rows of operations in the order of the text; code; functions. Conditions: none. -/
import Derived.Test.YtkopmkojmhlgcaaDoorH14
namespace Go.HL
variable {φ : Phi} {e : Env} {H : HH} {n B : Nat} {a : Act} {w : World} {P : Program}

/-- the guard of an operation: the temporary that holds its bool -/
def trG (ops : Array Oper) : Option (Nat × Bool) → Option (Option (Nat × Bool))
  | none => some none
  | some (j, want) => ((ops[j]?).bind (·.dst)).map fun g => some (g, want)

/-- the instructions of a row of operations -/
def trOps (P : Program) (n : Nat) (hp : List Nat) (fs : List FuncId) (ops : Array Oper) : List Oper → Option (List HG)
  | [] => some []
  | o :: r => if dstOk n o.dst then (trG ops o.guard).bind fun g => (trHI P n hp fs o).bind fun i => (trOps P n hp fs ops r).map (⟨g, o.dst, i⟩ :: ·) else none

theorem FS.putBad (h : FS φ e H n B a w) {d : Option Nat} {u : Value} (hd : ∀ k, d = some k → k < n) : FS φ (e.setO d .bad) H n B (a.put d u) w := by
  cases d with
  | none => exact h
  | some k => exact h.put (hd k rfl) trivial

theorem yielded_of (h : FS φ e H n B a w) {ops : Array Oper} {j g : Nat} {b : Bool} (hg : (ops[j]?).bind (·.dst) = some g) (hb : e.t g = .val (.bool b)) : yielded ops a.tmps j = some b := by
  have := h.tm g
  rw [hb] at this
  have hv : VR φ (.bool b) (a.tmps.getD g undef) := this
  unfold yielded
  rw [hg]
  simp only [Option.bind_some]
  cases hx : a.tmps[g]? with
  | none =>
    rw [Array.getD_eq_getD_getElem?, hx] at hv
    cases hv
  | some x =>
    rw [Array.getD_eq_getD_getElem?, hx] at hv
    simp only [Option.getD_some] at hv
    cases hv
    rfl

theorem ops_wp {φ0 : Phi} {H0 : HH} {w0 : World} {hp : List Nat} {fs : List FuncId} {ops : Array Oper} {K : Env → HH → Prop} {Q : Exit → Act → World → Prop} (hq : ∀ a w, After φ0 H0 w0 n w0.heap.size K a w → Q .normal a w) :
    ∀ {l : List Nat} {os : List Oper} {is : List HG}, l.map (fun i => ops[i]?) = os.map some → trOps P n hp fs ops os = some is → ∀ {φ : Phi} {e : Env} {H : HH} {a : Act} {w : World}, FS φ e H n w0.heap.size a w → Fr φ0 H0 w0 φ H w → hreg (TS P) is K e H → wpOps P ops Q l a w
  | [], [], is, _, h, φ, e, H, a, w, hs, hf, hk => by
    simp [trOps] at h; subst h
    exact hq a w ⟨e, H, φ, hk, hs, hf⟩
  | i :: l, o :: os, is, hl, h, φ, e, H, a, w, hs, hf, hk => by
    simp only [List.map_cons, List.cons.injEq] at hl
    simp only [trOps] at h
    split at h
    · rename_i hd
      obtain ⟨g, h0, h⟩ := bind_some h
      obtain ⟨hi, h1, h⟩ := bind_some h
      obtain ⟨his, h2, rfl⟩ := map_some h
      simp only [wpOps, hl.1]
      have go : Region.wanted o (yielded ops a.tmps) = true → hI (TS P) hi (hreg (TS P) his K) e H → (if Region.wanted o (yielded ops a.tmps) then o.wp P a w (wpOps P ops Q l) Q ∨ (o.asks P a w ∧ LetsOut Q) else wpOps P ops Q l (a.put o.dst undef) w) := by
        intro hw hk
        rw [if_pos hw]
        exact .inl (wp_next (hi_wp hs hf h1 hk) fun a' w' ⟨e', H', φ', g1, g2, g3⟩ => ops_wp hq hl.2 h2 g2 g3 g1)
      cases hgd : o.guard with
      | none =>
        rw [hgd] at h0
        simp [trG] at h0; subst h0
        refine go ?_ hk
        simp [Region.wanted, hgd]
      | some jw =>
        obtain ⟨j, want⟩ := jw
        rw [hgd] at h0
        simp only [trG] at h0
        obtain ⟨gt, h3, rfl⟩ := map_some h0
        obtain ⟨b, h4, h5, h6⟩ := hk
        have hy := yielded_of hs h3 h4
        by_cases hb : b = want
        · refine go ?_ (h5 hb)
          simp [Region.wanted, hgd, hy, hb]
        · rw [if_neg (by simp [Region.wanted, hgd, hy, hb])]
          exact ops_wp hq hl.2 h2 (hs.putBad (dstOk_lt hd)) hf (h6 hb)
    · cases h
  | [], _ :: _, _, hl, _, _, _, _, _, _, _, _, _ => by simp at hl
  | _ :: _, [], _, hl, _, _, _, _, _, _, _, _, _ => by simp at hl

theorem range_ops (ops : Array Oper) : (List.range ops.size).map (fun i => ops[i]?) = ops.toList.map some := by
  apply List.ext_getElem?
  intro i
  by_cases h : i < ops.size
  · simp [h]
  · simp [h]

/-- the translation of code: regions whose order is drawn come with a row of their own -/
def trC (P : Program) (n : Nat) (hp : List Nat) (fs : List FuncId) (dr : Array Oper → Option (List Nat × DT)) : Code → Option HC
  | .skip => some .skip
  | .region _ ops draw => if draw then match dr ops with
      | some r => some (.dt r.1 r.2)
      | none => some .bad
    else match trOps P n hp fs ops ops.toList with
      | some is => some (.reg is)
      | none => some .bad
  | .seq x y => (trC P n hp fs dr x).bind fun p => (trC P n hp fs dr y).map fun q => .seq p q
  | .cond c x y => (trO c).bind fun o => (trC P n hp fs dr x).bind fun p => (trC P n hp fs dr y).map fun q => .cond o p q
  | .block id x => (trC P n hp fs dr x).map fun p => .block id p
  | .loop x => (trC P n hp fs dr x).map fun p => .loop p
  | .exit id => some (.exit id)
  | .ret => some .ret
  | _ => some .bad

def exitOf : HX → Exit
  | .normal => .normal
  | .exit id => .exit id
  | .ret => .ret

theorem exists_least {p : Nat → Prop} : ∀ (n : Nat), p n → ∃ n, p n ∧ ∀ m, p m → n ≤ m := by
  intro n
  induction n using Nat.strongRecOn with
  | _ n ih =>
    intro hn
    by_cases h : ∃ m, m < n ∧ p m
    · obtain ⟨m, hm, hp⟩ := h
      exact ih m hm hp
    · exact ⟨n, hn, fun m hm => by
        rcases Nat.lt_or_ge m n with hl | hl
        · exact absurd ⟨m, hl, hm⟩ h
        · exact hl⟩
open Classical in
noncomputable def least (p : Nat → Prop) : Nat := if h : ∃ n, p n ∧ ∀ m, p m → n ≤ m then Classical.choose h else 0
theorem least_spec {p : Nat → Prop} {n : Nat} (h : p n) : p (least p) ∧ ∀ m, p m → least p ≤ m := by
  have hx := exists_least n h
  unfold least
  rw [dif_pos hx]
  exact Classical.choose_spec hx

/-- what stands for the drawn regions: whatever order, the machine does what the row says -/
def DrawOk (P : Program) (n : Nat) (dr : Array Oper → Option (List Nat × DT)) : Prop := ∀ (id : Nat) (ops : Array Oper) (is : List Nat × DT), dr ops = some is →
  ∀ {φ0 : Phi} {H0 : HH} {w0 : World} {K : Env → HH → Prop} {Q : Exit → Act → World → Prop}, (∀ a w, After φ0 H0 w0 n w0.heap.size K a w → Q .normal a w) →
    ∀ {φ : Phi} {e : Env} {H : HH} {a : Act} {w : World}, FS φ e H n w0.heap.size a w → Fr φ0 H0 w0 φ H w → hDT (TS P) is.2 K (e.forget is.1) H → (Code.region id ops true).wp P Q a w

theorem code_wp {hp : List Nat} {fs : List FuncId} {dr : Array Oper → Option (List Nat × DT)} (hdr : DrawOk P n dr) {φ0 : Phi} {H0 : HH} {w0 : World} :
    ∀ {c : Code} {h : HC}, trC P n hp fs dr c = some h → ∀ {QQ : HX → Env → HH → Prop} {Q : Exit → Act → World → Prop}, (∀ x e' H' φ' a' w', QQ x e' H' → FS φ' e' H' n w0.heap.size a' w' → Fr φ0 H0 w0 φ' H' w' → Q (exitOf x) a' w') →
      ∀ {φ : Phi} {e : Env} {H : HH} {a : Act} {w : World}, FS φ e H n w0.heap.size a w → Fr φ0 H0 w0 φ H w → hwp (TS P) h QQ e H → c.wp P Q a w := by
  intro c
  induction c with
  | skip =>
    intro h ht QQ Q hq φ e H a w hs hf hk
    simp [trC] at ht; subst ht
    exact wp_skip (hq .normal e H φ a w hk hs hf)
  | region id ops draw =>
    intro h ht QQ Q hq φ e H a w hs hf hk
    simp only [trC] at ht
    have fin : ∀ a w, After φ0 H0 w0 n w0.heap.size (QQ .normal) a w → Q .normal a w := fun a w ⟨e', H', φ', g1, g2, g3⟩ => hq .normal e' H' φ' a w g1 g2 g3
    cases draw with
    | true =>
      simp only [if_true] at ht
      split at ht
      · rename_i is h1
        cases ht
        exact hdr id ops is h1 fin hs hf hk
      · cases ht; exact hk.elim
    | false =>
      simp only [Bool.false_eq_true, if_false] at ht
      split at ht
      · rename_i is h1
        cases ht
        exact wp_region (ops_wp fin (range_ops ops) h1 hs hf hk)
      · cases ht; exact hk.elim
  | seq x y ihx ihy =>
    intro h ht QQ Q hq φ e H a w hs hf hk
    simp only [trC] at ht
    obtain ⟨p, h1, ht⟩ := bind_some ht
    obtain ⟨q, h2, rfl⟩ := map_some ht
    refine wp_seq (ihx h1 ?_ hs hf hk)
    intro x e' H' φ' a' w' g1 g2 g3
    cases x with
    | normal => exact ihy h2 hq g2 g3 g1
    | exit id => exact hq (.exit id) e' H' φ' a' w' g1 g2 g3
    | ret => exact hq .ret e' H' φ' a' w' g1 g2 g3
  | cond c x y ihx ihy =>
    intro h ht QQ Q hq φ e H a w hs hf hk
    simp only [trC] at ht
    obtain ⟨o, h0, ht⟩ := bind_some ht
    obtain ⟨p, h1, ht⟩ := bind_some ht
    obtain ⟨q, h2, rfl⟩ := map_some ht
    obtain ⟨v, h3, hk⟩ := hk
    have hv := trO_v h0 hs h3
    cases v with
    | bool r =>
      have hc : a.eval c = .bool r := by
        generalize a.eval c = z at hv
        cases hv; rfl
      refine wp_cond hc ?_
      cases r with
      | true => exact ihx h1 hq hs hf hk
      | false => exact ihy h2 hq hs hf hk
    | _ => exact hk.elim
  | block id x ih =>
    intro h ht QQ Q hq φ e H a w hs hf hk
    simp only [trC] at ht
    obtain ⟨p, h1, rfl⟩ := map_some ht
    refine wp_block (ih h1 ?_ hs hf hk)
    intro x e' H' φ' a' w' g1 g2 g3
    cases x with
    | normal => exact hq .normal e' H' φ' a' w' g1 g2 g3
    | exit j =>
      simp only [exitOf, Exit.inBlock]
      simp only at g1
      split
      · rename_i hj; rw [if_pos hj] at g1; exact hq .normal e' H' φ' a' w' g1 g2 g3
      · rename_i hj; rw [if_neg hj] at g1; exact hq (.exit j) e' H' φ' a' w' g1 g2 g3
    | ret => exact hq .ret e' H' φ' a' w' g1 g2 g3
  | loop x ih =>
    intro h ht QQ Q hq φ e H a w hs hf hk
    simp only [trC] at ht
    obtain ⟨p, h1, rfl⟩ := map_some ht
    obtain ⟨I, ⟨k, hk0⟩, hstep⟩ := hk
    let p : Act → World → Nat → Prop := fun a w m => ∃ φ e H, I m e H ∧ FS φ e H n w0.heap.size a w ∧ Fr φ0 H0 w0 φ H w
    refine wp_loop (I := fun a w => ∃ m, p a w m) (μ := fun a w => least (p a w)) ⟨k, φ, e, H, hk0, hs, hf⟩ ?_
    rintro a w ⟨m0, hI⟩
    obtain ⟨φ1, e1, H1, g1, g2, g3⟩ := (least_spec hI).1
    refine ih h1 ?_ g2 g3 (hstep _ _ _ g1)
    intro x e' H' φ' a' w' k1 k2 k3
    cases x with
    | normal =>
      obtain ⟨m, hm1, hm2⟩ := k1
      have hx' : p a' w' m := ⟨φ', e', H', hm2, k2, k3⟩
      exact ⟨⟨m, hx'⟩, Nat.lt_of_le_of_lt ((least_spec hx').2 m hx') hm1⟩
    | exit j => exact hq (.exit j) e' H' φ' a' w' k1 k2 k3
    | ret => exact hq .ret e' H' φ' a' w' k1 k2 k3
  | exit id =>
    intro h ht QQ Q hq φ e H a w hs hf hk
    simp [trC] at ht; subst ht
    exact wp_exit (hq (.exit id) e H φ a w hk hs hf)
  | ret =>
    intro h ht QQ Q hq φ e H a w hs hf hk
    simp [trC] at ht; subst ht
    exact wp_ret (hq .ret e H φ a w hk hs hf)
  | _ =>
    intro h ht QQ Q hq φ e H a w hs hf hk
    simp [trC] at ht; subst ht
    exact hk.elim
end Go.HL
