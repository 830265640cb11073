/- The translation of an operation into an instruction, and that the machine does what the instruction says: operations that only compute or read. Conditions: none. -/
import Derived.Test.YtkopmkojmhlgcaaDoorH2
namespace Go.HL
variable {φ : Phi} {e : Env} {H : HH} {n B : Nat} {a : Act} {w : World} {P : Program}

def constS : Value → Option HV
  | .int k n => some (.int k n)
  | .bool b => some (.bool b)
  | .string s => some (.str s.data.toList)
  | .slice none 0 0 => some .nils
  | .pointer none => some .nilp
  | .map none => some .nilm
  | .nilFunc => some .nilf
  | _ => none
def constL : List Value → Option (List HV)
  | [] => some []
  | v :: r => (constS v).bind fun x => (constL r).map (x :: ·)
def constV : Value → Option HV
  | .agg cs => (constL cs.toList).map .agg
  | v => constS v

theorem constS_sound {v : Value} {x : HV} (h : constS v = some x) (φ : Phi) : VR φ x v ∧ v.oneCell' = true := by
  unfold constS at h
  split at h <;> cases h <;> exact ⟨by constructor, rfl⟩
theorem constL_sound : ∀ {l : List Value} {x : List HV}, constL l = some x → ∀ φ, VRs φ x l ∧ ∀ v ∈ l, v.oneCell' = true
  | [], x, h, φ => by simp [constL] at h; subst h; exact ⟨.nil, by simp⟩
  | v :: r, x, h, φ => by
    simp only [constL] at h
    cases hv : constS v with
    | none => simp [hv] at h
    | some u =>
      cases hr : constL r with
      | none => simp [hv, hr] at h
      | some l =>
        simp [hv, hr] at h
        subst h
        have h1 := constS_sound hv φ
        have h2 := constL_sound hr φ
        exact ⟨.cons _ _ _ _ h1.1 h2.1, by intro y hy; simp only [List.mem_cons] at hy; exact hy.elim (fun h => h ▸ h1.2) (h2.2 y)⟩
theorem constV_sound {v : Value} {x : HV} (h : constV v = some x) (φ : Phi) : VR φ x v := by
  unfold constV at h
  split at h
  · rename_i cs
    cases hc : constL cs.toList with
    | none => simp [hc] at h
    | some l =>
      simp [hc] at h
      subst h
      have := constL_sound hc φ
      exact .agg l cs.toList this.1 this.2
  · exact (constS_sound h φ).1

def trO : Operand → Option O
  | .tmp t => some (.t t)
  | .const v => (constV v).map .c
  | .func f => some (.c (.fn f [] []))
  | .global _ => none

theorem trO_sound {x : Operand} {o : O} (h : trO x = some o) (hs : FS φ e H n B a w) : TR φ a (e.ev o) (a.eval x) := by
  cases x with
  | tmp t => simp [trO] at h; subst h; exact hs.tm t
  | const v =>
    simp only [trO] at h
    cases hc : constV v with
    | none => simp [hc] at h
    | some u => simp [hc] at h; subst h; exact constV_sound hc φ
  | func f => simp [trO] at h; subst h; exact .fn f [] [] [] [] .nil .nil
  | global g => simp [trO] at h

theorem trO_v {x : Operand} {o : O} (h : trO x = some o) (hs : FS φ e H n B a w) {v : HV} (hv : e.v o = some v) : VR φ v (a.eval x) := by
  have h1 := trO_sound h hs
  unfold Env.v at hv
  cases h2 : e.ev o with
  | val u => rw [h2] at hv h1; simp at hv; subst hv; exact h1
  | loc l f => rw [h2] at hv; simp at hv
  | bad => rw [h2] at hv; simp at hv

def trOs : List Operand → Option (List O)
  | [] => some []
  | x :: r => (trO x).bind fun o => (trOs r).map (o :: ·)
theorem trOs_sound (hs : FS φ e H n B a w) : ∀ {xs : List Operand} {os : List O}, trOs xs = some os → ∀ {vs : List HV}, e.vs os = some vs → VRs φ vs (xs.map a.eval)
  | [], os, h, vs, hv => by simp [trOs] at h; subst h; simp at hv; subst hv; exact .nil
  | x :: r, os, h, vs, hv => by
    simp only [trOs] at h
    cases h1 : trO x with
    | none => simp [h1] at h
    | some o =>
      cases h2 : trOs r with
      | none => simp [h1, h2] at h
      | some l =>
        simp [h1, h2] at h
        subst h
        simp only [Env.vs_cons] at hv
        cases h3 : e.v o with
        | none => simp [h3] at hv
        | some v =>
          cases h4 : e.vs l with
          | none => simp [h3, h4] at hv
          | some q =>
            simp [h3, h4] at hv
            subst hv
            exact .cons _ _ _ _ (trO_v h1 hs h3) (trOs_sound hs h2 h4)

/-! ### types -/
def aggT (P : Program) (t : TypeId) : Option Bool :=
  match P.underlying t with
  | some (.struct _) | some (.array _ _) => some true
  | some _ => some false
  | none => none
def sizeT (P : Program) (t : TypeId) : Option Nat := (P.info? t).map (·.size)

theorem aggT_run {t : TypeId} {b : Bool} (h : aggT P t = some b) (w : World) : (isAgg t).run P w = .ok b w := by
  unfold aggT at h
  split at h <;> rename_i hu <;> cases h
  · simp [isAgg, run_underlying hu]
  · simp [isAgg, run_underlying hu]
  · rename_i d h1 h2
    simp only [isAgg, Sem.run_bind, run_underlying hu, Result.andThen_ok]
    cases d <;> simp_all
theorem sizeT_run {t : TypeId} {k : Nat} (h : sizeT P t = some k) (w : World) : (sizeOf t).run P w = .ok k w := by
  unfold sizeT at h
  cases hi : P.info? t with
  | none => simp [hi] at h
  | some i => simp [hi] at h; simp [sizeOf, typeInfo, hi, h]

/-! ### loads -/
theorem load_sound {t : TypeId} {agg : Bool} {m : Nat} {x : Value} {tv : TV} {v : HV} (hs : FS φ e H n B a w) (hx : TR φ a tv x) (hv : H.loadP e agg m tv = some v)
    (ha : aggT P t = some agg) (hz : sizeT P t = some m) : ∃ u, (Instr.loadAt t x).run P w = .ok u w ∧ VR φ v u := by
  unfold HH.loadP at hv
  split at hv
  · rename_i l f
    cases hl : e.l l with
    | none => simp [hl] at hv
    | some cs =>
      simp [hl] at hv
      obtain ⟨b, c, ty, h1, h2, h3, h4, h5⟩ := hs.lo l cs hl
      obtain ⟨b', h6, rfl⟩ := hx
      rw [h1] at h6; cases h6
      have hd : VRs φ ((cs.drop f).take (if agg then m else 1)) ((c.toList.drop (0 + f)).take (if agg then m else 1)) := by rw [Nat.zero_add]; exact (h3.drop f).take _
      obtain ⟨u, hu, hvr⟩ := run_cells (P := P) (w := w) (t := t) (o := 0) hv h2 hd (fun v hv => h4 v (List.mem_of_mem_drop (List.mem_of_mem_take hv))) (aggT_run ha w) (fun _ => sizeT_run hz w)
      rw [Nat.zero_add] at hu
      exact ⟨u, by simpa [Instr.loadAt, Instr.sureAddr] using hu, hvr⟩
  · rename_i id i f
    split at hv
    · rename_i ro sz es ho
      cases hi : es[i]? with
      | none => simp [hi] at hv
      | some cs =>
        simp [hi] at hv
        cases hx with
        | ptr id i f p hp =>
          obtain ⟨h1, h2, h3, h4, c, ty, fr, h5, h6, h7, h8, h9⟩ := hs.sim.ob id p _ hp ho
          have hcs : cs.length = sz := h4 cs (List.mem_of_getElem? hi)
          have hlt : i < es.length := by
            rcases Nat.lt_or_ge i es.length with h | h
            · exact h
            · rw [List.getElem?_eq_none h] at hi; cases hi
          have hfm : f + (if agg then m else 1) ≤ sz := by
            cases agg with
            | true => have := (getCells_agg hv).1; simp only [if_true]; omega
            | false =>
              simp only [getCells, Bool.false_eq_true, if_false] at hv ⊢
              have : f < cs.length := by
                rcases Nat.lt_or_ge f cs.length with h | h
                · exact h
                · rw [List.getElem?_eq_none h] at hv; cases hv
              omega
          have hd := elem_cells h4 h7 hi hfm
          have hone : ∀ v ∈ (c.toList.drop (p.off + i * sz + f)).take (if agg then m else 1), v.oneCell' = true := by
            intro v hv
            refine h8 v ?_
            have hle : i * sz + sz ≤ es.length * sz := by
              have : (i + 1) * sz ≤ es.length * sz := Nat.mul_le_mul_right _ hlt
              rwa [Nat.add_mul, Nat.one_mul] at this
            have : (c.toList.drop (p.off + i * sz + f)).take (if agg then m else 1) = ((((c.toList.drop p.off).take (es.length * sz)).drop (i * sz + f)).take (if agg then m else 1)) := by
              rw [List.drop_take, List.take_take, List.drop_drop, Nat.min_eq_left (by omega), ← Nat.add_assoc]
            rw [this] at hv
            exact List.mem_of_mem_drop (List.mem_of_mem_take hv)
          obtain ⟨u, hu, hvr⟩ := run_cells (P := P) (w := w) (t := t) (o := p.off + i * sz) hv h5 hd hone (aggT_run ha w) (fun _ => sizeT_run hz w)
          rw [h1]
          exact ⟨u, by simpa [Instr.loadAt, Instr.sureAddr] using hu, hvr⟩
    · cases hv
  · cases hv

/-! ### addresses -/
def fieldT (P : Program) (s : TypeId) (f : Nat) : Option (Nat × TypeId) :=
  match P.underlying s with
  | some (.struct fs) => (fs[f]?).map fun x => (x.offset, x.type)
  | _ => none

theorem Addr.add_none (b o k : Nat) : (⟨b, o, none⟩ : Addr).add k = ⟨b, o + k, none⟩ := add_mk b o k

theorem faddr_sound {s ft : TypeId} {f off m : Nat} {x : Value} {tv tv' : TV} (hx : TR φ a tv x) (hf : fieldT P s f = some (off, ft)) (hz : sizeT P ft = some m) (hm : 0 < m)
    (hv : faddrV off tv = some tv') :
    ∃ u, (Instr.fieldAt s x f).run P w = .ok u w ∧ TR φ a tv' u := by
  unfold faddrV at hv
  unfold fieldT at hf
  split at hf
  · rename_i fs hu
    cases hg : fs[f]? with
    | none => simp [hg] at hf
    | some fd =>
      simp [hg] at hf
      obtain ⟨rfl, rfl⟩ := hf
      have hsz := sizeT_run hz w
      have hne : m ≠ 0 := by omega
      cases tv with
      | bad => cases hv
      | loc l g =>
        cases hv
        obtain ⟨b, h1, rfl⟩ := hx
        exact ⟨_, by simp [Instr.fieldAt, run_underlying hu, hg, Instr.sureAddr, fieldPlace, hsz, hne, Addr.add_none], b, h1, rfl⟩
      | val v =>
        have hx' : VR φ v x := hx
        cases hx' <;> try (simp at hv; done)
        case ptr id i g p hp =>
          cases hv
          exact ⟨_, by simp [Instr.fieldAt, run_underlying hu, hg, Instr.sureAddr, fieldPlace, hsz, hne, Addr.add_none]; rfl, by rw [Nat.add_assoc]; exact .ptr id i _ p hp⟩
  · cases hf

/-- an element's address -/
theorem iaddr_sound {t et : TypeId} {sz : Nat} {x i : Value} {v u : HV} {tv : TV} (hs : FS φ e H n B a w) (hx : VR φ v x) (hi : VR φ u i) (ht : P.underlying t = some (.slice et)) (hz : sizeT P et = some sz)
    (hv : iaddrV H sz (some v) (some u) = some tv) :
    ∃ y, (Instr.indexAt t x i).run P w = .ok y w ∧ TR φ a tv y := by
  unfold iaddrV at hv
  split at hv
  · rename_i id off ln room ex k q h1 h2
    cases h1; cases h2
    split at hv
    · rename_i ro s es ho
      split at hv
      · rename_i hc
        obtain ⟨rfl, h0, hk⟩ := hc
        cases hv
        cases hi
        cases hx with
        | slice _ _ _ _ _ p o cap hp ho' hroom hex hlen htot =>
          have h1 := (hs.sim.ob id p _ hp ho).1
          have hcap : cap ≠ 0 := by omega
          have hoo : o = p.off + off * p.sz := ho'.resolve_right hcap
          have htiny : ((match TypeDesc.slice et with | .array .. => true | _ => false) : Bool) = false := rfl
          refine ⟨.pointer (some ⟨p.blk, p.off + (off + q.toNat) * p.sz + 0, none⟩), ?_, .ptr _ _ _ p hp⟩
          subst hoo
          simp [Instr.indexAt, asIntOf, run_underlying ht, h0, hk, sizeT_run hz, Addr.add_none, h1, Nat.add_mul, Nat.add_assoc]
      · cases hv
    · cases hv
  · cases hv

theorem iaddrA_sound {t et : TypeId} {ln sz : Nat} {x i : Value} {tp : TV} {u : HV} {tv : TV} (hx : TR φ a tp x) (hi : VR φ u i) (ht : P.underlying t = some (.array ln et)) (hz : sizeT P et = some sz)
    (hv : iaddrAV ln sz tp (some u) = some tv) :
    ∃ y, (Instr.indexAt t x i).run P w = .ok y w ∧ TR φ a tv y := by
  unfold iaddrAV at hv
  cases tp with
  | bad => cases hv
  | loc l f =>
    cases hi <;> try (simp at hv; done)
    case int k q =>
      simp only at hv
      split at hv
      · rename_i hc
        cases hv
        obtain ⟨b, h1, rfl⟩ := hx
        refine ⟨_, ?_, b, h1, rfl⟩
        simp [Instr.indexAt, asIntOf, run_underlying ht, Instr.sureAddr, hc.1, hc.2, sizeT_run hz, Addr.add_none]
      · cases hv
  | val v =>
    have hx' : VR φ v x := hx
    cases hi <;> try (cases hx' <;> simp at hv; done)
    case int k q =>
      cases hx' <;> try (simp at hv; done)
      case ptr id j f p hp =>
        simp only at hv
        split at hv
        · rename_i hc
          cases hv
          refine ⟨.pointer (some ⟨p.blk, p.off + j * p.sz + (f + q.toNat * sz), none⟩), ?_, .ptr _ _ _ p hp⟩
          simp [Instr.indexAt, asIntOf, run_underlying ht, Instr.sureAddr, hc.1, hc.2, sizeT_run hz, Addr.add_none, Nat.add_assoc]
        · cases hv
end Go.HL
