/- Regions whose order is drawn: the machine. Functions. Conditions: none. -/
import Derived.Test.YtkopmkojmhlgcaaDoorH19
namespace Go.HL
variable {φ : Phi} {e : Env} {H : HH} {n B : Nat} {a : Act} {w : World} {P : Program}

theorem TR.forget {tv : TV} {x : Value} (h : TR φ a tv x) (ws : List Nat) : TR φ a (tv.forget ws) x := by
  cases tv with
  | loc l f =>
    simp only [TV.forget_loc]
    split
    · trivial
    · exact h
  | _ => exact h

theorem FS.forget (h : FS φ e H n B a w) (ws : List Nat) : FS φ (e.forget ws) H n B a w := by
  refine ⟨h.bs, h.sim, fun t => (h.tm t).forget ws, h.sz, h.df, ?_, ?_, ?_⟩
  · intro l cs hl
    simp only [Env.forget_l] at hl
    split at hl
    · cases hl
    · exact h.lo l cs hl
  · intro l cs hl
    simp only [Env.forget_l] at hl
    split at hl
    · cases hl
    · rename_i hn
      simp only [Env.forget_t, h.lt l cs hl, TV.forget_loc, if_neg hn]
  · intro l l' cs cs' hl hl' hne
    simp only [Env.forget_l] at hl hl'
    split at hl
    · cases hl
    · split at hl'
      · cases hl'
      · exact h.ap l l' cs cs' hl hl' hne

theorem trOps_get {hp : List Nat} {fs : List FuncId} {ops : Array Oper} : ∀ {os : List Oper} {is : List HG}, trOps P n hp fs ops os = some is → ∀ {j : Nat} {o : Oper}, os[j]? = some o → ∃ g i, is[j]? = some ⟨g, o.dst, i⟩ ∧ trG ops o.guard = some g ∧ trHI P n hp fs o = some i ∧ dstOk n o.dst = true
  | [], is, h, j, o, ho => by simp at ho
  | o :: r, is, h, j, o', ho => by
    simp only [trOps] at h
    split at h
    · rename_i hd
      obtain ⟨g, h1, h⟩ := bind_some h
      obtain ⟨i, h2, h⟩ := bind_some h
      obtain ⟨is', h3, rfl⟩ := map_some h
      cases j with
      | zero => simp at ho; subst ho; exact ⟨g, i, by simp, h1, h2, hd⟩
      | succ j => simp at ho; simpa using trOps_get h3 ho
    · cases h

/-- one operation, perhaps guarded -/
theorem hg_wp {φ0 : Phi} {H0 : HH} {w0 : World} {hp : List Nat} {fs : List FuncId} {ops : Array Oper} {o : Oper} {g : Option (Nat × Bool)} {i : HI} {K : Env → HH → Prop} {Q : Exit → Act → World → Prop} (hs : FS φ e H n w0.heap.size a w) (hf : Fr φ0 H0 w0 φ H w) (h0 : trG ops o.guard = some g) (h1 : trHI P n hp fs o = some i) (hd : dstOk n o.dst = true)
    (hk : hG (TS P) ⟨g, o.dst, i⟩ K e H) {j : Nat} (hj : ops[j]? = some o) : wpOp P ops Q j (After φ0 H0 w0 n w0.heap.size K) a w := by
  unfold wpOp
  rw [hj]
  simp only
  have go : Region.wanted o (yielded ops a.tmps) = true → hI (TS P) i K e H → (if Region.wanted o (yielded ops a.tmps) then o.wp P a w (After φ0 H0 w0 n w0.heap.size K) Q ∨ (o.asks P a w ∧ LetsOut Q) else After φ0 H0 w0 n w0.heap.size K (a.put o.dst undef) w) := by
    intro hw hk
    rw [if_pos hw]
    exact .inl (hi_wp hs hf h1 hk)
  cases hgd : o.guard with
  | none =>
    rw [hgd] at h0
    simp [trG] at h0; subst h0
    refine go ?_ hk
    simp [Region.wanted, hgd]
  | some jw =>
    obtain ⟨m, want⟩ := jw
    rw [hgd] at h0
    simp only [trG] at h0
    obtain ⟨gt, h3, rfl⟩ := map_some h0
    obtain ⟨b, h4, h5, h6⟩ := hk
    have hy := yielded_of hs h3 h4
    by_cases hb : b = want
    · refine go ?_ (h5 hb)
      simp [Region.wanted, hgd, hy, hb]
    · rw [if_neg (by simp [Region.wanted, hgd, hy, hb])]
      exact ⟨_, H, φ, h6 hb, hs.putBad (dstOk_lt hd), hf⟩

theorem any_wp {φ0 : Phi} {H0 : HH} {w0 : World} {hp : List Nat} {fs : List FuncId} {ops : Array Oper} {is : List HG} {K : Env → HH → Prop} {Q : Exit → Act → World → Prop} (hq : ∀ a w, After φ0 H0 w0 n w0.heap.size K a w → Q .normal a w) (h : trOps P n hp fs ops ops.toList = some is) :
    ∀ (k : Nat) (listed : Array Bool) {φ : Phi} {e : Env} {H : HH} {a : Act} {w : World}, FS φ e H n w0.heap.size a w → Fr φ0 H0 w0 φ H w → hAny P ops is K k listed e H → wpAny P .any ops Q k listed a w := by
  intro k
  induction k with
  | zero => intro listed φ e H a w hs hf hk; exact ⟨hk.1, hq _ _ ⟨e, H, φ, hk.2, hs, hf⟩⟩
  | succ k ih =>
    intro listed φ e H a w hs hf hk
    obtain ⟨h1, h2⟩ := hk (hs.sim.nx _ (Nat.le_refl _))
    refine ⟨fun h0 => hq _ _ ⟨e, H, φ, h1 h0, hs, hf⟩, fun j hj => ?_⟩
    obtain ⟨_, o, ho, _⟩ := mem_ready.1 hj
    obtain ⟨g, i, h3, h4, h5, h6⟩ := trOps_get h (j := j) (o := o) (by simpa using ho)
    refine wpOp_mono ?_ (hg_wp hs hf h4 h5 h6 (h2 j hj _ h3) ho)
    rintro a' w' ⟨e', H', φ', g1, g2, g3⟩
    exact ih _ g2 g3 g1

/-- a region whose order is drawn, translated -/
def trDraw (P : Program) (n : Nat) (hp : List Nat) (fs : List FuncId) (ls : List Nat) (ops : Array Oper) : Option (List Nat × DT) :=
  (trOps P n hp fs ops ops.toList).bind fun is => if rowOk is then (mkDT ops is ls ops.size (Array.replicate ops.size false)).map fun t => (is.filterMap (·.d), t) else none

theorem draw_ok (hP : P.follows .mixedOrders = true) (hp : List Nat) (fs : List FuncId) (ls : List Nat) : DrawOk P n (trDraw P n hp fs ls) := by
  rintro id ops ⟨ws, t⟩ hd φ0 H0 w0 K Q hq φ e H a w hs hf hk
  simp only [trDraw] at hd
  obtain ⟨is, h1, hd⟩ := bind_some hd
  split at hd
  · rename_i hr
    obtain ⟨t', h2, h3⟩ := map_some hd
    cases h3
    refine wp_region_any hP ?_
    have hw : ∀ b, b < w.heap.size → ({ w with drawn := w.drawn + 1 } : World).heap[b]? = w.heap[b]? := fun _ _ => rfl
    have hf' : Fr φ H w φ H { w with drawn := w.drawn + 1 } := .grow (Nat.le_refl _) rfl rfl rfl hw
    have hs' : FS φ e H n w0.heap.size a { w with drawn := w.drawn + 1 } := hs.world (hs.sim.keep (Nat.le_refl _) hw) hf'
    refine any_wp hq h1 ops.size _ (hs'.forget _) (hf.trans hf') (mkDT_sound hr _ _ _ _ _ h2 ?_ hk)
    intro t l f ht j g hg _ hgd
    simp only [Env.forget_t] at ht
    cases he : e.t t with
    | loc l' f' =>
      rw [he] at ht
      simp only [TV.forget_loc] at ht
      split at ht
      · cases ht
      · rename_i hn
        cases ht
        exact hn (List.mem_filterMap.2 ⟨g, List.mem_of_getElem? hg, hgd⟩)
    | val u => rw [he] at ht; cases ht
    | bad => rw [he] at ht; cases ht
  · cases hd

/-- what a function needs besides: the temporaries that are boxed on the heap; what may be behind a function value; the addresses of local variables -/
structure Hint where
  hp : List Nat := []
  fs : List FuncId := []
  ls : List Nat := []

def trF (P : Program) (k : FuncId) (x : Hint) : Option HF :=
  (P.funcs[k]?).bind fun fn => fn.body.bind fun c => if fn.params.size + fn.nfree ≤ fn.ntmps then (trRes P fn.results.toList).bind fun rs => (trC P fn.ntmps x.hp x.fs (trDraw P fn.ntmps x.hp x.fs x.ls) c).map fun b => ⟨fn.ntmps, fn.params.size + fn.nfree, rs, b⟩ else none

theorem fn_sound {k : FuncId} {x : Hint} {f : HF} (hP : P.follows .mixedOrders = true) (h : trF P k x = some f) {args : List HV} {Q : HV → HH → Prop} (hw : f.wp (TS P) args H Q) : TS P k args H Q := by
  simp only [trF] at h
  obtain ⟨fn, h1, h⟩ := bind_some h
  obtain ⟨c, h2, h⟩ := bind_some h
  split at h
  · rename_i hn
    obtain ⟨rs, h3, h⟩ := bind_some h
    obtain ⟨b, h4, rfl⟩ := map_some h
    exact fn_ts ⟨fn, c, x.hp, x.fs, _, h1, h2, rfl, hn, h3, h4, draw_ok hP _ _ _⟩ hw
  · cases h
end Go.HL
