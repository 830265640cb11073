/- Calls; the translation of an operation into an instruction; a row of operations in the order of the text. Conditions: none. -/
import Derived.Test.YtkopmkojmhlgcaaDoorH13
namespace Go.HL
variable {φ : Phi} {e : Env} {H : HH} {n B : Nat} {a : Act} {w : World} {P : Program}

/-- what a call of a function asks, by what the machine does: the function returns, and Q holds of the result and of the heap -/
def TS (P : Program) : FuncId → Spec := fun k args H Q => ∀ φ w vs, Sim φ w H → VRs φ args vs →
  Calls P k ⟨vs⟩ w fun e w' => ∃ r H' φ' v, Q r H' ∧ e = .returned v ∧ VR φ' r v ∧ Sim φ' w' H' ∧ Fr φ H w φ' H' w'

theorem TS.mono {k : FuncId} {args : List HV} {Q Q' : HV → HH → Prop} (h : TS P k args H Q) (hq : ∀ r H', Q r H' → Q' r H') : TS P k args H Q' := fun φ w vs hs hv =>
  (h φ w vs hs hv).mono fun _ _ ⟨r, H', φ', v, h1, h2⟩ => ⟨r, H', φ', v, hq _ _ h1, h2⟩

def bodyOk (P : Program) (k : FuncId) : Bool :=
  match P.funcs[k]? with
  | some fn => fn.name != "runtime.NumGoroutine" && fn.body.isSome
  | none => false

theorem bodyOk_run {k : FuncId} (h : bodyOk P k = true) (args : Array Value) (w : World) : (callFunc k args).run P w = .ok (.enter k args) w := by
  unfold bodyOk at h
  split at h
  · rename_i fn hf
    simp only [Bool.and_eq_true, bne_iff_ne, ne_eq] at h
    cases hb : fn.body with
    | none => simp_all
    | some b => simp [callFunc, hf, h.1, hb]
  · cases h

theorem FS.putO (h : FS φ e H n B a w) {d : Option Nat} {v : HV} {u : Value} (hd : ∀ k, d = some k → k < n) (hv : VR φ v u) : FS φ (e.setO d (.val v)) H n B (a.put d u) w := by
  cases d with
  | none => exact h
  | some k => exact h.put (hd k rfl) hv

theorem enter_wp (hs : FS φ e H n B a w) {o : Oper} {k : FuncId} {vs : List HV} {xs : List Value} {K : Env → HH → Prop} {Q : Exit → Act → World → Prop} (hdn : ∀ d, o.dst = some d → d < n) (hr : (execOp a.eval o).run P w = .ok (.enter k ⟨xs⟩) w) (hv : VRs φ vs xs)
    (hk : TS P k vs H fun r H' => K (e.setO o.dst (.val r)) H') : o.wp P a w (After φ H w n B K) Q := by
  unfold Oper.wp
  rw [hr, Oper.upon_enter]
  refine (hk φ w xs hs.sim hv).mono ?_
  rintro en w' ⟨r, H', φ', v, h1, rfl, h2, h3, h4⟩
  exact ⟨_, H', φ', h1, (hs.world h3 h4).putO hdn h2, h4⟩

/-- a call of a known function -/
theorem call_wp (hs : FS φ e H n B a w) {o : Oper} {k : FuncId} {xs : List Operand} {ts : Array TypeId} {ps : List O} {K : Env → HH → Prop} {Q : Exit → Act → World → Prop} (hdn : ∀ d, o.dst = some d → d < n)
    (ho : o.op = .call { callee := .value (.func k), args := ⟨xs⟩, argTypes := ts }) (hb : bodyOk P k = true) (hx : trOs xs = some ps)
    (hk : oK (e.vs ps) fun vs => TS P k vs H fun r H' => K (e.setO o.dst (.val r)) H') : o.wp P a w (After φ H w n B K) Q := by
  obtain ⟨vs, h1, hk⟩ := hk
  have hv := trOs_sound hs hx h1
  refine enter_wp hs hdn (xs := xs.map a.eval) ?_ hv hk
  simp [execOp, ho, resolve, Deferred.ofValue, Act.eval, invoke, bodyOk_run hb]

/-- a call of a function value -/
theorem callv_wp (hs : FS φ e H n B a w) {o : Oper} {x : Operand} {p : O} {fs : List FuncId} {xs : List Operand} {ts : Array TypeId} {ps : List O} {K : Env → HH → Prop} {Q : Exit → Act → World → Prop} (hdn : ∀ d, o.dst = some d → d < n)
    (ho : o.op = .call { callee := .value x, args := ⟨xs⟩, argTypes := ts }) (hp : trO x = some p) (hb : ∀ k ∈ fs, bodyOk P k = true) (hx : trOs xs = some ps)
    (hk : oK (e.vs ps) fun vs => ∃ f first caps, e.v p = some (.fn f first caps) ∧ f ∈ fs ∧ TS P f (first ++ vs ++ caps) H fun r H' => K (e.setO o.dst (.val r)) H') : o.wp P a w (After φ H w n B K) Q := by
  obtain ⟨vs, h1, f, first, caps, h2, h3, hk⟩ := hk
  have hv := trOs_sound hs hx h1
  have hfr := trO_v hp hs h2
  generalize hax : a.eval x = u at hfr
  cases hfr with
  | fn _ _ _ y z hy hz =>
    refine enter_wp hs hdn (xs := y ++ xs.map a.eval ++ z) ?_ ((hy.append hv).append hz) hk
    simp [execOp, ho, resolve, hax, Deferred.ofValue, invoke]
    exact bodyOk_run (hb f h3) _ w

/-! ### the translation of an operation -/
def dstOk (n : Nat) : Option Nat → Bool
  | some d => decide (d < n)
  | none => true
theorem dstOk_lt {n : Nat} {x : Option Nat} (h : dstOk n x = true) : ∀ d, x = some d → d < n := by
  rintro d rfl
  simpa [dstOk] using h
def trHI (P : Program) (n : Nat) (hp : List Nat) (fs : List FuncId) (o : Oper) : Option HI :=
  match o.op with
  | .store t x y => if o.dst.isNone then (sizeT P t).bind fun m => if 0 < m then (trO x).bind fun p => (trO y).map fun q => .store m p q else none else none
  | .mapUpdate t x y z => if o.dst.isNone then match P.underlying t with
      | some (.map kt _) => (flatK P 9 kt).bind fun ks => (trO x).bind fun m => (trO y).bind fun k => (trO z).map fun q => .mapupd (agK P kt) ks m k q
      | _ => none
    else none
  | .call { callee := .value (.func k), args := ⟨xs⟩, argTypes := _ } => if bodyOk P k && dstOk n o.dst then (trOs xs).map fun ps => .call o.dst k ps else none
  | .call { callee := .value x, args := ⟨xs⟩, argTypes := _ } => if fs.all (bodyOk P ·) && dstOk n o.dst then (trO x).bind fun p => (trOs xs).map fun ps => .callv o.dst fs p ps else none
  | op => match o.dst with
    | none => none
    | some d => if d < n then
      match op with
      | .alloc t => (zeroC P t).bind fun cs => if hp.contains d then (if 0 < cs.length then some (.new d (.var cs.length cs)) else none) else some (.alloc d cs)
      | .box t x => (sizeT P t).bind fun m => if 0 < m then (trO x).map fun p => if hp.contains d then .new d (.box m p) else .box d m p else none
      | .buildSlice t ln ps => match P.underlying t with
        | some (.slice et) => (zeroC P et).bind fun cs => if 0 < cs.length ∧ sizeT P et = some cs.length ∧ ln * cs.length ≤ 2 ^ 24 then (trEls ps.toList).map fun q => .new d (.mkSlice cs.length cs ln q) else none
        | _ => none
      | .makeSlice t x y => match P.underlying t with
        | some (.slice et) => (zeroC P et).bind fun cs => (P.info? et).bind fun it => if 0 < cs.length ∧ it.size = cs.length then (trO x).bind fun p => (trO y).map fun q => .new d (.make cs.length it.bytes cs p q) else none
        | _ => none
      | .makeMap _ none => some (.new d .map)
      | .call { callee := .builtin .append, args := ⟨[x, y]⟩, argTypes := ⟨[t, t']⟩ } => if t = t' then
          match P.underlying t with
          | some (.slice et) => (P.info? et).bind fun it => it.zero.bind fun z => if 0 < it.size ∧ z.cells.size = it.size then (trO x).bind fun p => (trO y).map fun q => .app d it.size it.bytes p q else none
          | _ => none
        else none
      | op => (trPO P op).map fun p => .pur d p
    else none

theorem After.start {φ0 : Phi} {H0 : HH} {w0 : World} {K : Env → HH → Prop} (hf : Fr φ0 H0 w0 φ H w) {a' : Act} {w' : World} (h : After φ H w n B K a' w') : After φ0 H0 w0 n B K a' w' := by
  obtain ⟨e', H', φ', h1, h2, h3⟩ := h
  exact ⟨e', H', φ', h1, h2, hf.trans h3⟩

theorem wp_next {o : Oper} {N N' : Act → World → Prop} {Q : Exit → Act → World → Prop} (h : o.wp P a w N Q) (hn : ∀ a w, N a w → N' a w) : o.wp P a w N' Q := by
  unfold Oper.wp Oper.upon at *
  split at h
  · exact hn _ _ h
  · exact hn _ _ h
  · exact hn _ _ h
  · refine h.mono ?_
    intro e w' he
    split at he
    · exact hn _ _ he
    · exact he
    · exact he
  · exact h.mono fun v w' hv => hn _ _ hv
  · exact h
  · exact h

theorem hi_wp {φ0 : Phi} {H0 : HH} {w0 : World} {hp : List Nat} {fs : List FuncId} {o : Oper} {i : HI} {K : Env → HH → Prop} {Q : Exit → Act → World → Prop} (hs : FS φ e H n w0.heap.size a w) (hf : Fr φ0 H0 w0 φ H w) (h : trHI P n hp fs o = some i)
    (hk : hI (TS P) i K e H) : o.wp P a w (After φ0 H0 w0 n w0.heap.size K) Q := by
  have rel : o.wp P a w (After φ H w n w0.heap.size K) Q → o.wp P a w (After φ0 H0 w0 n w0.heap.size K) Q := fun h => wp_next h fun _ _ => After.start hf
  unfold trHI at h
  split at h
  · rename_i t x y ho
    split at h
    · rename_i hd
      obtain ⟨m, h1, h⟩ := bind_some h
      split at h
      · rename_i hm
        obtain ⟨p, h2, h⟩ := bind_some h
        obtain ⟨q, h3, rfl⟩ := map_some h
        exact store_wp hs hf (by simpa using hd) ho h1 hm h2 h3 hk
      · cases h
    · cases h
  · rename_i t x y z ho
    split at h
    · rename_i hd
      split at h
      · rename_i kt et hu
        obtain ⟨ks, h1, h⟩ := bind_some h
        obtain ⟨m, h2, h⟩ := bind_some h
        obtain ⟨k, h3, h⟩ := bind_some h
        obtain ⟨q, h4, rfl⟩ := map_some h
        exact rel (mapupd_wp hs (by simpa using hd) ho hu h1 h2 h3 h4 hk)
      · cases h
    · cases h
  · rename_i k xs ts ho
    split at h
    · rename_i hb
      simp only [Bool.and_eq_true] at hb
      obtain ⟨ps, h1, rfl⟩ := map_some h
      exact rel (call_wp hs (dstOk_lt hb.2) ho hb.1 h1 hk)
    · cases h
  · rename_i x xs ts _ ho
    split at h
    · rename_i hb
      simp only [Bool.and_eq_true] at hb
      obtain ⟨p, h1, h⟩ := bind_some h
      obtain ⟨ps, h2, rfl⟩ := map_some h
      exact rel (callv_wp hs (dstOk_lt hb.2) ho h1 (by simpa using hb.1) h2 hk)
    · cases h
  · split at h
    · cases h
    · rename_i d hd
      split at h
      · rename_i hdn
        split at h
        · rename_i t ho
          obtain ⟨cs, h1, h⟩ := bind_some h
          split at h
          · split at h
            · rename_i hm
              cases h
              refine rel (var_wp hs hd hdn ho h1 hm rfl ?_)
              simpa [hI, NO.ev] using hk
            · cases h
          · cases h
            exact rel (al_wp hs hd hdn ho h1 hk)
        · rename_i t x ho
          obtain ⟨m, h1, h⟩ := bind_some h
          split at h
          · rename_i hm
            obtain ⟨p, h2, h⟩ := map_some h
            split at h
            · subst h
              exact rel (boxH_wp hs hd hdn ho h2 hm hk)
            · subst h
              exact rel (box_wp hs hd hdn ho h2 hm hk)
          · cases h
        · rename_i t ln ps ho
          split at h
          · rename_i et hu
            obtain ⟨cs, h1, h⟩ := bind_some h
            split at h
            · rename_i hc
              obtain ⟨q, h2, rfl⟩ := map_some h
              exact rel (mkSlice_wp hs hd hdn ho hu h1 hc.1 rfl hc.2.1 hc.2.2 h2 hk)
            · cases h
          · cases h
        · rename_i t x y ho
          split at h
          · rename_i et hu
            obtain ⟨cs, h1, h⟩ := bind_some h
            obtain ⟨it, h2, h⟩ := bind_some h
            split at h
            · rename_i hc
              obtain ⟨p, h3, h⟩ := bind_some h
              obtain ⟨q, h4, rfl⟩ := map_some h
              exact rel (make_wp hs hd hdn ho hu h1 hc.1 rfl h2 hc.2 rfl h3 h4 hk)
            · cases h
          · cases h
        · rename_i t ho
          cases h
          refine rel (makeMap_wp hs hd hdn ho ?_)
          simpa [hI, NO.ev] using hk
        · rename_i x y t t' ho
          split at h
          · rename_i htt
            subst htt
            split at h
            · rename_i et hu
              obtain ⟨it, h1, h⟩ := bind_some h
              obtain ⟨z, h2, h⟩ := bind_some h
              split at h
              · rename_i hc
                obtain ⟨p, h3, h⟩ := bind_some h
                obtain ⟨q, h4, rfl⟩ := map_some h
                exact rel (app_wp hs hd hdn ho hu h1 hc.1 rfl rfl h2 hc.2 h3 h4 hk)
              · cases h
            · cases h
          · cases h
        · obtain ⟨p, h1, rfl⟩ := map_some h
          exact rel (pur_wp hs hd hdn h1 hk)
      · cases h
end Go.HL
