/- make, maps, iterators; stores; append. Conditions: none. -/
import Derived.Test.YtkopmkojmhlgcaaDoorH11
namespace Go.HL
variable {φ : Phi} {e : Env} {H : HH} {n B : Nat} {a : Act} {w : World} {P : Program}

theorem make_wp (hs : FS φ e H n B a w) {o : Oper} {t et : TypeId} {x y : Operand} {p q : O} {d m nb : Nat} {cs : List HV} {it : TypeInfo} {K : Env → HH → Prop} {Q : Exit → Act → World → Prop} (hd : o.dst = some d) (hdn : d < n) (ho : o.op = .makeSlice t x y) (hu : P.underlying t = some (.slice et))
    (hz : zeroC P et = some cs) (hm : 0 < m) (hl : cs.length = m) (hi : P.info? et = some it) (hsz : it.size = m) (hnb : it.bytes = nb) (hx : trO x = some p) (hy : trO y = some q)
    (hk : oK ((NO.make m nb cs p q).ev e H.next) fun r => K (e.set d (.val r.2)) (H.new r.1)) : o.wp P a w (After φ H w n B K) Q := by
  obtain ⟨r, h0, hk⟩ := hk
  simp only [NO.ev] at h0
  split at h0
  · rename_i k1 l k2 c e1 e2
    split at h0
    · rename_i hc
      obtain ⟨c1, c2, c3, c4⟩ := hc
      cases h0
      have hxr := trO_v hx hs e1
      have hyr := trO_v hy hs e2
      unfold zeroC at hz
      obtain ⟨z, hz1, hz2⟩ := bind_some hz
      obtain ⟨it', hz3, hz4⟩ := bind_some hz1
      rw [hi] at hz3; cases hz3
      have h5 := constL_sound hz2 φ
      have hzs : z.cells.size = m := by have := h5.1.length; simp at this; omega
      have hr0 := run_make (P := P) w t et it z hu hi hz4 k1 k2 l c c1 c2 (by rw [hnb]; exact c3) (by unfold i64max at c4; exact c4)
      have hr : (execOp a.eval o).run P w = .ok (.value (.slice (some ⟨w.heap.size, 0, none⟩) l.toNat c.toNat)) (w.alloc (.cells (madeCells z.cells (c.toNat * it.size)) et)) := by
        simp only [execOp, ho]
        generalize a.eval x = u at hxr
        generalize a.eval y = v at hyr
        cases hxr; cases hyr
        simp [hr0]
      have hflat : (madeCells z.cells (c.toNat * it.size)).toList = (List.replicate c.toNat z.cells.toList).flatten := by
        unfold madeCells; rw [hsz]; exact made_flat z.cells m c.toNat hzs hm
      have hlc : l.toNat ≤ c.toNat := by omega
      have hrl : ∀ (k : Nat), ((List.replicate k z.cells.toList).flatten).length = k * m := fun k => by simp [hzs]
      have htake : ((List.replicate c.toNat z.cells.toList).flatten).take (l.toNat * m) = (List.replicate l.toNat z.cells.toList).flatten := by
        have : List.replicate c.toNat z.cells.toList = List.replicate l.toNat z.cells.toList ++ List.replicate (c.toNat - l.toNat) z.cells.toList := by
          rw [List.replicate_append_replicate]; congr 1; omega
        rw [this, List.flatten_append, ← hrl l.toNat, List.take_left]
      obtain ⟨φ', g1, g2⟩ := FS.newRow (sz := m) (k := c.toNat) (es := List.replicate l.toNat cs) (x := (madeCells z.cells (c.toNat * it.size)).toList) (ty := et) (w0 := w) (v := .slice H.next 0 l.toNat c.toNat true) (u := .slice (some ⟨w.heap.size, 0, none⟩) l.toNat c.toNat) hs hdn hm
        (fun x hx => by rw [(List.mem_replicate.1 hx).2, hl]) (by rw [hflat, List.length_replicate, htake]; exact h5.1.rep _) (by
          rw [hflat, List.length_replicate, htake]; intro v hv
          obtain ⟨x, hx, hvx⟩ := List.mem_flatten.1 hv
          rw [(List.mem_replicate.1 hx).2] at hvx
          exact h5.2 v hvx) (by simpa using hlc) (by rw [hflat]; exact hrl _) rfl rfl rfl rfl
        (.slice _ _ _ _ _ ⟨w.heap.size, 0, m, c.toNat⟩ _ _ (Phi.set_self _ _ _) (.inl (by simp)) (Nat.le_refl _) (fun _ => rfl) hlc (.inl (by simp)))
      exact wp_value hd hr ⟨_, _, φ', hk, g1, g2⟩
    · cases h0
  · cases h0

theorem makeMap_wp (hs : FS φ e H n B a w) {o : Oper} {t : TypeId} {d : Nat} {K : Env → HH → Prop} {Q : Exit → Act → World → Prop} (hd : o.dst = some d) (hdn : d < n) (ho : o.op = .makeMap t none)
    (hk : K (e.set d (.val (.map H.next))) (H.new (.map []))) : o.wp P a w (After φ H w n B K) Q := by
  have hr : (execOp a.eval o).run P w = .ok (.value (.map (some w.heap.size))) (w.alloc (.map #[] 0)) := by simp [execOp, ho, Instr.makeMap]
  have hb : ∀ b, b < w.heap.size → (w.alloc (.map #[] 0)).heap[b]? = w.heap[b]? := fun b hb => heap_alloc_old _ _ _ hb
  have := FS.new (p := ⟨w.heap.size, 0, 0, 0⟩) (o := .map []) (v := .map H.next) (u := .map (some w.heap.size)) (w' := w.alloc (.map #[] 0)) hs hdn (by simp) rfl rfl rfl hb (Nat.le_refl _) (by simp)
    ⟨#[], heap_alloc_new _ _, rfl, by simp⟩ (.map _ ⟨w.heap.size, 0, 0, 0⟩ (Phi.set_self _ _ _))
  exact wp_value hd hr ⟨_, _, _, hk, this.1, this.2⟩

/-! ### stores -/
theorem setRow_get (w : World) (g : Nat) (cs : Array Value) (b : Nat) (h : b ≠ g) : (w.setRow g cs).heap[b]? = w.heap[b]? := setRow_other w g b cs h

/-- the cells of an object are written -/
theorem Sim.store {id : Nat} {p : Pl} {sz : Nat} {es es' : List (List HV)} {c : Array Value} {ty : TypeId} {y : List Value} (h : Sim φ w H) (hp : φ id = some p) (ho : H.get id = some (.arr false sz es))
    (hc : w.heap[p.blk]? = some (.cells c ty (0, 0))) (hl : ∀ x ∈ es', x.length = sz) (hlen : es'.length ≤ p.tot) (hy : y.length = c.size) (hv : VRs φ es'.flatten (y.take (es'.length * sz))) (h1 : ∀ v ∈ y.take (es'.length * sz), v.oneCell' = true) :
    Sim φ (w.setRow p.blk ⟨y⟩) (H.put id (.arr false sz es')) ∧ Fr φ H w φ (H.put id (.arr false sz es')) (w.setRow p.blk ⟨y⟩) := by
  obtain ⟨g1, g2, g3, g4, c', ty', fr', g5, g6, g7, g8, g9⟩ := h.ob id p _ hp ho
  rw [hc] at g5; cases g5
  obtain ⟨g10, _, g11⟩ := g9 rfl
  have hwr : Wr H id := ⟨_, ho, rfl⟩
  have wrp : ∀ i, Wr (H.put id (.arr false sz es')) i → Wr H i := by
    rintro i ⟨o, hi, hw⟩
    simp only [HH.put_get] at hi
    split at hi
    · rename_i e; rw [e]; exact hwr
    · exact ⟨o, hi, hw⟩
  constructor
  · refine ⟨?_, ?_, ?_, ?_⟩
    · intro i j q r hi hj hq hw hg
      refine h.inj i j q r hi hj hq (wrp i hw) ?_
      simp only [HH.put_get] at hg
      split at hg
      · rename_i e; rw [e, ho]; simp
      · exact hg
    · intro i q hi
      have := h.dom i q hi
      exact ⟨this.1, by simpa using this.2⟩
    · intro i q o hi hg
      simp only [HH.put_get] at hg
      split at hg
      · rename_i e; subst e; cases hg
        rw [hp] at hi; cases hi
        refine ⟨g1, g2, hlen, hl, ⟨y⟩, ty, (0, 0), setRow_heap w p.blk c ⟨y⟩ ty (0, 0) hc, ?_, ?_, ?_, fun _ => ⟨g10, rfl, by simp [hy, g11]⟩⟩
        · simp [hy, g11, g10]
        · simpa [g10] using hv
        · simpa [g10] using h1
      · rename_i e
        refine (h.ob i q o hi hg).keep (setRow_get _ _ _ _ ?_)
        intro hb
        exact e (h.inj id i p q hp hi hb.symm hwr (by rw [hg]; simp)).symm
    · intro i hi
      simp only [HH.put_get]
      have := h.nx i hi
      split
      · rename_i e; rw [e, ho] at this; cases this
      · exact this
  · refine ⟨Ext.refl φ, by simp, rfl, rfl, rfl, ?_, ?_, ?_, Nat.le_refl _⟩
    · intro b _ hb
      refine setRow_get _ _ _ _ ?_
      rintro rfl
      exact hb ⟨id, p, hp, rfl, hwr⟩
    · rintro b _ ⟨i, q, hi, hq, hw⟩
      exact ⟨i, q, hi, hq, wrp i hw⟩
    · rintro b _ ⟨i, q, hi, hq, hw⟩
      refine ⟨i, q, hi, hq, ?_⟩
      simp only [HH.put_get] at hw
      split at hw
      · rename_i e; rw [e, ho]; simp
      · exact hw

/-- a local variable is written -/
theorem FS.storeL (h : FS φ e H n B a w) {l : Nat} {cs cs' : List HV} {y : List Value} {b : Nat} {c : Array Value} {ty : TypeId} (hl : e.l l = some cs) (hb : a.tmps.getD l undef = .pointer (some ⟨b, 0, none⟩)) (hc : w.heap[b]? = some (.cells c ty (0, 0)))
    (hnw : ¬ Lb φ H b) (hB : B ≤ b) (hv : VRs φ cs' y) (h1 : ∀ v ∈ y, v.oneCell' = true) : FS φ (e.setL l cs') H n B a (w.setRow b ⟨y⟩) := by
  refine ⟨by simpa using h.bs, ⟨h.sim.inj, fun i p hp => by have := h.sim.dom i p hp; exact ⟨this.1, by simpa using this.2⟩, ?_, h.sim.nx⟩, h.tm, h.sz, h.df, ?_, ?_, ?_⟩
  · intro i p o hp ho
    exact (h.sim.ob i p o hp ho).keep (setRow_get _ _ _ _ (fun hb => hnw ⟨i, p, hp, hb, by rw [ho]; simp⟩))
  · intro l' cs1 hl'
    simp only [Env.setL_l] at hl'
    split at hl'
    · rename_i e1; subst e1; cases hl'
      exact ⟨b, ⟨y⟩, ty, hb, setRow_heap w b c ⟨y⟩ ty (0, 0) hc, hv, h1, hnw, hB⟩
    · rename_i hne
      obtain ⟨b', c', ty', g1, g2, g3⟩ := h.lo l' cs1 hl'
      have hbb : b' ≠ b := by
        rintro rfl
        exact h.ap l' l cs1 cs hl' hl hne (g1.trans hb.symm)
      exact ⟨b', c', ty', g1, (setRow_get _ _ _ _ hbb).trans g2, g3⟩
  · intro l' cs1 hl'
    simp only [Env.setL_l] at hl'
    split at hl'
    · rename_i e1; subst e1; exact h.lt _ _ hl
    · exact h.lt _ _ hl'
  · intro l1 l2 c1 c2 h1 h2 hne
    simp only [Env.setL_l] at h1 h2
    have e1 : ∃ q, e.l l1 = some q := by
      split at h1
      · rename_i e1; rw [e1]; exact ⟨_, hl⟩
      · exact ⟨_, h1⟩
    have e2 : ∃ q, e.l l2 = some q := by
      split at h2
      · rename_i e1; rw [e1]; exact ⟨_, hl⟩
      · exact ⟨_, h2⟩
    obtain ⟨q1, e1⟩ := e1
    obtain ⟨q2, e2⟩ := e2
    exact h.ap l1 l2 q1 q2 e1 e2 hne

/-! ### store -/
theorem run_store_row {t : TypeId} {m b o : Nat} {x : Value} {c : Array Value} {ty : TypeId} (hz : sizeT P t = some m) (hm : x.cells.size = m) (hc : w.heap[b]? = some (.cells c ty (0, 0))) (hle : o + m ≤ c.size) (h1 : ∀ v ∈ x.cells.toList, v.oneCell' = true) :
    (storeVar t ⟨b, o, none⟩ x).run P w = .ok () (w.setRow b ⟨c.toList.take o ++ x.cells.toList ++ c.toList.drop (o + m)⟩) := by
  have hr := run_storeCells_at P b o ty x.cells.toList 0 c w hc (by simp; omega) h1
  rw [Nat.add_zero] at hr
  have hl : x.cells.toList.length = m := by simpa using hm
  rw [hl] at hr
  simp only [storeVar, Sem.run_bind, sizeT_run hz, Result.andThen_ok, if_neg (show ¬ x.cells.size ≠ m by omega), hr]

theorem splice_length {cs vs : List HV} {f : Nat} (h : f + vs.length ≤ cs.length) : (splice cs f vs).length = cs.length := by
  unfold splice; simp; omega

/-- a splice in an element is a splice in the row -/
theorem flat_splice {sz : Nat} {es : List (List HV)} {i f : Nat} {cs vs : List HV} (hl : ∀ c ∈ es, c.length = sz) (hi : es[i]? = some cs) (hf : f + vs.length ≤ sz) :
    (es.set i (splice cs f vs)).flatten = splice es.flatten (i * sz + f) vs := by
  have hlt : i < es.length := by
    rcases Nat.lt_or_ge i es.length with h | h
    · exact h
    · rw [List.getElem?_eq_none h] at hi; cases hi
  have hcs : cs.length = sz := hl cs (List.mem_of_getElem? hi)
  rw [flat_set hl hlt (by rw [splice_length (by omega)]; exact hcs)]
  have hd := flat_drop hl hi
  unfold splice
  have hfl := flat_length hl
  have hle : i * sz + sz ≤ es.length * sz := by
    have : (i + 1) * sz ≤ es.length * sz := Nat.mul_le_mul_right _ hlt
    rwa [Nat.add_mul, Nat.one_mul] at this
  have e1 : es.flatten.take (i * sz + f) = es.flatten.take (i * sz) ++ cs.take f := by
    rw [List.take_add, hd, List.take_append_of_le_length (by omega)]
  have e3 : es.flatten.drop (i * sz + sz) = (es.drop (i + 1)).flatten := by
    rw [← List.drop_drop, hd, ← hcs, List.drop_left]
  have e2 : es.flatten.drop (i * sz + f + vs.length) = cs.drop (f + vs.length) ++ es.flatten.drop (i * sz + sz) := by
    rw [Nat.add_assoc, ← List.drop_drop, hd, List.drop_append_of_le_length (by omega), e3]
  rw [e1, e2]
  simp only [List.length_append, List.length_take, List.length_drop, List.append_assoc]
  congr 4
  congr 1
  omega

theorem take_splice {α : Type} (L Y : List α) (k m N : Nat) (hm : Y.length = m) (h : k + m ≤ N) (hN : N ≤ L.length) : (L.take k ++ Y ++ L.drop (k + m)).take N = (L.take N).take k ++ Y ++ (L.take N).drop (k + m) := by
  have h1 : (L.take k ++ Y).length = k + m := by simp; omega
  rw [List.take_append, h1, List.take_of_length_le (by omega), List.take_take, Nat.min_eq_left (by omega), List.drop_take]

theorem store_wp {φ0 : Phi} {H0 : HH} {w0 : World} (hs : FS φ e H n w0.heap.size a w) (hf : Fr φ0 H0 w0 φ H w) {o : Oper} {t : TypeId} {x y : Operand} {p q : O} {m : Nat} {K : Env → HH → Prop} {Q : Exit → Act → World → Prop} (hd : o.dst = none) (ho : o.op = .store t x y) (hz : sizeT P t = some m) (hm : 0 < m)
    (hx : trO x = some p) (hy : trO y = some q) (hk : oK (e.v q) fun v => oK (hstore e H m (e.ev p) v) fun r => K r.1 r.2) : o.wp P a w (After φ0 H0 w0 n w0.heap.size K) Q := by
  obtain ⟨v, h1, r, h2, hk⟩ := hk
  have hvr := trO_v hy hs h1
  have hpr := trO_sound hx hs
  unfold hstore at h2
  split at h2
  · rename_i hlen
    obtain ⟨hcells, hone⟩ := hvr.cells (.inl (by intro h0; rw [h0] at hlen; simp at hlen; omega))
    have hsz : (a.eval y).cells.size = m := by have := hcells.length; simp at this; omega
    have fin : ∀ {w' : World} {b off : Nat}, a.eval x = .pointer (some ⟨b, off, none⟩) → (storeVar t ⟨b, off, none⟩ (a.eval y)).run P w = .ok () w' → After φ0 H0 w0 n w0.heap.size K a w' → o.wp P a w (After φ0 H0 w0 n w0.heap.size K) Q := by
      intro w' b off e1 e2 h
      unfold Oper.wp
      have : (execOp a.eval o).run P w = .ok .skip w' := by simp [execOp, ho, Instr.storeAt, e1, Instr.sureAddr, e2]
      rw [this, Oper.upon_skip, hd]
      exact h
    split at h2
    · rename_i l f hev
      obtain ⟨cs, hl, h2⟩ := bind_some h2
      split at h2
      · rename_i hle
        cases h2
        rw [hev] at hpr
        obtain ⟨b, h3, h4⟩ := hpr
        obtain ⟨b', c, ty, g1, g2, g3, g4, g5, g6⟩ := hs.lo l cs hl
        rw [h3] at g1; cases g1
        have hcl : c.size = cs.length := by have := g3.length; simp at this; omega
        refine fin h4 (run_store_row hz hsz g2 (by omega) hone) ⟨_, _, φ, hk, hs.storeL hl h3 g2 g5 g6 ?_ ?_, ?_⟩
        · have := g3.splice hcells f
          rwa [← hcells.length, hlen] at this
        · have := splice_one g4 hone f
          rwa [← hcells.length, hlen] at this
        · refine ⟨hf.ext, by simpa using hf.size, hf.os, hf.tape, hf.output, fun k hk hn => ?_, hf.wb, hf.lb, hf.nx⟩
          rw [setRow_get _ _ _ _ (by omega)]
          exact hf.keep k hk hn
      · cases h2
    · rename_i id i f hev
      split at h2
      · rename_i sz es hg
        obtain ⟨cs, hi, h2⟩ := bind_some h2
        split at h2
        · rename_i hle
          cases h2
          rw [hev] at hpr
          have hpr' : VR φ (.ptr id i f) (a.eval x) := hpr
          generalize hax : a.eval x = u at hpr'
          cases hpr' with
          | ptr _ _ _ pl hp =>
            obtain ⟨g1, g2, g3, g4, c, ty, fr, g5, g6, g7, g8, g9⟩ := hs.sim.ob id pl _ hp hg
            obtain ⟨g10, g11, g12⟩ := g9 rfl
            subst g11
            have hlt : i < es.length := by
              rcases Nat.lt_or_ge i es.length with h | h
              · exact h
              · rw [List.getElem?_eq_none h] at hi; cases hi
            have hcs : cs.length = sz := g4 cs (List.mem_of_getElem? hi)
            have hle2 : i * sz + sz ≤ es.length * sz := by
              have : (i + 1) * sz ≤ es.length * sz := Nat.mul_le_mul_right _ hlt
              rwa [Nat.add_mul, Nat.one_mul] at this
            have htot : es.length * sz ≤ c.size := by rw [g12]; exact Nat.mul_le_mul_right _ g3
            rw [g10, List.drop_zero] at g7 g8
            have hst := Sim.store (es' := es.set i (splice cs f v.cells)) (y := c.toList.take (pl.off + i * pl.sz + f) ++ (a.eval y).cells.toList ++ c.toList.drop (pl.off + i * pl.sz + f + m)) hs.sim hp hg g5
              (by
                intro q hq
                rcases List.mem_or_eq_of_mem_set hq with h | h
                · exact g4 q h
                · rw [h, splice_length (by omega)]; exact hcs)
              (by simpa using g3) (by simp [g1, g10]; omega)
              (by
                rw [List.length_set, flat_splice g4 hi (by omega), g1, g10, Nat.zero_add]
                have h5 := g7.splice hcells (i * sz + f)
                have hyl : (a.eval y).cells.toList.length = m := by simpa using hsz
                have this := take_splice c.toList (a.eval y).cells.toList (i * sz + f) m (es.length * sz) hyl (by omega) (by simpa using htot)
                rw [hyl] at h5
                rw [this]; exact h5)
              (by
                intro u hu
                rw [List.length_set, g1, g10, Nat.zero_add] at hu
                have hyl : (a.eval y).cells.toList.length = m := by simpa using hsz
                rw [take_splice c.toList (a.eval y).cells.toList (i * sz + f) m (es.length * sz) hyl (by omega) (by simpa using htot)] at hu
                have h5 := splice_one g8 hone (i * sz + f)
                rw [hyl] at h5
                exact h5 u hu)
            refine fin hax ?_ ⟨_, _, φ, hk, ?_, hf.trans hst.2⟩
            · refine run_store_row hz hsz g5 ?_ hone
              rw [g1, g10]; omega
            · exact hs.world hst.1 hst.2
        · cases h2
      · cases h2
    · cases h2
  · cases h2
end Go.HL
