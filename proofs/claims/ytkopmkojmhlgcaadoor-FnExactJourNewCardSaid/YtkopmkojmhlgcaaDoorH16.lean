/- Functions: what the abstract level asks of a body is enough for the call. Conditions: none. -/
import Derived.Test.YtkopmkojmhlgcaaDoorH15
namespace Go.HL
variable {φ : Phi} {e : Env} {H : HH} {n B : Nat} {a : Act} {w : World} {P : Program}

def trRes (P : Program) : List ResultVar → Option (List RV)
  | [] => some []
  | .tmp t :: r => (trRes P r).map (.t t :: ·)
  | .cell x t :: r => (aggT P t).bind fun g => (sizeT P t).bind fun m => (trRes P r).map (.l g m x :: ·)

theorem res_run (hs : FS φ e H n B a w) (f : ResultVar → Sem Value) (hf : ∀ t, f (.tmp t) = pure (a.tmps.getD t undef)) (hc : ∀ x t, f (.cell x t) = (do loadVar t (← asAddr (a.tmps.getD x undef)))) : ∀ {rs : List ResultVar} {qs : List RV} {vs : List HV}, trRes P rs = some qs → HL.rvs e qs = some vs →
    ∃ us : List Value, (rs.mapM f).run P w = .ok us w ∧ VRs φ vs us
  | [], qs, vs, h, hv => by
    simp [trRes] at h; subst h
    simp [HL.rvs] at hv; subst hv
    exact ⟨[], by simp, .nil⟩
  | .tmp t :: r, qs, vs, h, hv => by
    simp only [trRes] at h
    obtain ⟨q, h1, rfl⟩ := map_some h
    simp only [HL.rvs, rvV] at hv
    obtain ⟨v, h2, hv⟩ := bind_some hv
    obtain ⟨l, h3, rfl⟩ := map_some hv
    obtain ⟨us, h4, h5⟩ := res_run hs f hf hc h1 h3
    have ht := hs.tm t
    cases he : e.t t with
    | val u =>
      rw [he] at h2 ht
      simp at h2; subst h2
      exact ⟨_ :: us, by simp [List.mapM_cons, hf, h4], .cons _ _ _ _ ht h5⟩
    | loc _ _ => rw [he] at h2; simp at h2
    | bad => rw [he] at h2; simp at h2
  | .cell x t :: r, qs, vs, h, hv => by
    simp only [trRes] at h
    obtain ⟨g, h0, h⟩ := bind_some h
    obtain ⟨m, h1, h⟩ := bind_some h
    obtain ⟨q, h2, rfl⟩ := map_some h
    simp only [HL.rvs, rvV] at hv
    obtain ⟨v, h3, hv⟩ := bind_some hv
    obtain ⟨l, h4, rfl⟩ := map_some hv
    obtain ⟨us, h5, h6⟩ := res_run hs f hf hc h2 h4
    split at h3
    · rename_i l' he
      have hx := hs.tm x
      rw [he] at hx
      obtain ⟨b, h7, h8⟩ := hx
      have hload := load_sound (t := t) (agg := g) (m := m) (v := v) (tv := .loc l' 0) hs (x := a.tmps.getD x undef) (by exact ⟨b, h7, h8⟩) (by simpa [HH.loadP] using h3) h0 h1
      obtain ⟨u, h9, h10⟩ := hload
      rw [h8] at h9
      have h9' : (loadVar t ⟨b, 0, none⟩).run P w = .ok u w := by simpa [Instr.loadAt, Instr.sureAddr] using h9
      exact ⟨u :: us, by simp [List.mapM_cons, hc, h8, asAddr, h9', h5], .cons _ _ _ _ h10 h6⟩
    · cases h3

theorem results_run (hs : FS φ e H n B a w) {fn : Func} {qs : List RV} {vs : List HV} (h : trRes P fn.results.toList = some qs) (hv : HL.rvs e qs = some vs) : ∃ u, (results fn a.tmps).run P w = .ok u w ∧ VR φ (resV vs) u := by
  let g : ResultVar → Sem Value := fun | .tmp t => pure (a.tmps.getD t undef) | .cell x t => do loadVar t (← asAddr (a.tmps.getD x undef))
  obtain ⟨us, h1, h2⟩ := res_run hs g (fun _ => rfl) (fun _ _ => rfl) h hv
  have e0 : results fn a.tmps = (do let vs ← fn.results.mapM g; pure (if h : vs.size = 1 then vs[0] else .tuple vs)) := rfl
  rw [e0]
  simp only [Sem.run_bind, Array.mapM_eq_mapM_toList, Sem.run_map, h1, Result.andThen_ok]
  have hl := h2.length
  match vs, us, hl, h2 with
  | [v], [u], _, .cons _ _ _ _ hu .nil => exact ⟨u, by simp, hu⟩
  | [], [], _, h2 => exact ⟨.tuple #[], by simp, .tup _ [] h2⟩
  | v :: v' :: vs, u :: u' :: us, _, h2 => exact ⟨.tuple ⟨u :: u' :: us⟩, by simp, .tup _ _ h2⟩

/-- a function of the program, translated -/
structure FnOk (P : Program) (k : FuncId) (f : HF) : Prop where
  ex : ∃ fn c hp fs dr, P.funcs[k]? = some fn ∧ fn.body = some c ∧ fn.ntmps = f.ntmps ∧ f.nargs ≤ f.ntmps ∧ trRes P fn.results.toList = some f.results ∧ trC P f.ntmps hp fs dr c = some f.body ∧ DrawOk P f.ntmps dr

theorem fn_ts {k : FuncId} {f : HF} (h : FnOk P k f) {args : List HV} {Q : HV → HH → Prop} (hw : f.wp (TS P) args H Q) : TS P k args H Q := by
  obtain ⟨fn, c, hp, fs, dr, h1, h2, h3, h4, h5, h6, h7⟩ := h.ex
  obtain ⟨hl, hw⟩ := hw
  intro φ w vs hsim hv
  have hvl : vs.length = f.nargs := by rw [← hv.length, hl]
  refine calls_of_wp h1 h2 ?_
  have hfs : FS φ (env0 args) H f.ntmps w.heap.size { tmps := (⟨vs⟩ : Array Value) ++ Array.replicate (fn.ntmps - (⟨vs⟩ : Array Value).size) undef, defers := [] } w := by
    refine ⟨Nat.le_refl _, hsim, ?_, ?_, rfl, ?_, ?_, ?_⟩
    · intro t
      simp only [env0]
      cases ha : args[t]? with
      | none => trivial
      | some v =>
        obtain ⟨u, hu, hvu⟩ := hv.get t v ha
        have hlt : t < vs.length := by
          rcases Nat.lt_or_ge t vs.length with h | h
          · exact h
          · rw [List.getElem?_eq_none h] at hu; cases hu
        have : ((⟨vs⟩ : Array Value) ++ Array.replicate (fn.ntmps - (⟨vs⟩ : Array Value).size) undef).getD t undef = u := by
          rw [Array.getD_eq_getD_getElem?, Array.getElem?_append_left (by simpa using hlt)]
          simp [hu]
        show VR φ v _
        rw [this]; exact hvu
    · simp [h3, hvl]; omega
    · intro l cs hl; simp [env0] at hl
    · intro l cs hl; simp [env0] at hl
    · intro l l' cs cs' hl; simp [env0] at hl
  refine code_wp h7 h6 ?_ hfs (Fr.refl φ H w) hw
  intro x e' H' φ' a' w' hx hs' hf'
  have fin : oK (HL.rvs e' f.results) (fun l => Q (resV l) H') → a'.defers = [] ∧ ∃ v, (results fn a'.tmps).run P w' = .ok v w' ∧ (∃ r H'' φ'' u, Q r H'' ∧ Ending.returned v = .returned u ∧ VR φ'' r u ∧ Sim φ'' w' H'' ∧ Fr φ H w φ'' H'' w') := by
    rintro ⟨l, g1, g2⟩
    obtain ⟨u, g3, g4⟩ := results_run hs' h5 g1
    exact ⟨hs'.df, u, g3, _, H', φ', u, g2, rfl, g4, hs'.sim, hf'⟩
  cases x with
  | normal => exact fin hx
  | ret => exact fin hx
  | exit id => exact hx.elim
end Go.HL
