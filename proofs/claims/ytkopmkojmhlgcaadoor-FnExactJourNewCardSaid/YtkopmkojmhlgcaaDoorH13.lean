/- append. Conditions: none. -/
import Derived.Test.YtkopmkojmhlgcaaDoorH12
import Derived.MapKept
namespace Go.HL
variable {φ : Phi} {e : Env} {H : HH} {n B : Nat} {a : Act} {w : World} {P : Program}

theorem Sim.kill (h : Sim φ w H) (id : Nat) : Sim φ w (H.kill id) ∧ Fr φ H w φ (H.kill id) w := by
  have sub : ∀ i o, (H.kill id).get i = some o → H.get i = some o := by
    intro i o hi
    simp only [HH.kill_get] at hi
    split at hi
    · cases hi
    · exact hi
  have subn : ∀ i, (H.kill id).get i ≠ none → H.get i ≠ none := by
    intro i hi
    simp only [HH.kill_get] at hi
    split at hi
    · exact absurd rfl hi
    · exact hi
  refine ⟨⟨?_, h.dom, fun i p o hp ho => h.ob i p o hp (sub i o ho), ?_⟩, ⟨Ext.refl φ, Nat.le_refl _, rfl, rfl, rfl, fun _ _ _ => rfl, ?_, ?_, Nat.le_refl _⟩⟩
  · rintro i j p q hi hj hq ⟨o, ho, hw⟩ hg
    exact h.inj i j p q hi hj hq ⟨o, sub i o ho, hw⟩ (subn j hg)
  · intro i hi
    simp only [HH.kill_get]
    split
    · rfl
    · exact h.nx i hi
  · rintro b _ ⟨i, p, hi, hp, o, ho, hw⟩
    exact ⟨i, p, hi, hp, o, sub i o ho, hw⟩
  · rintro b _ ⟨i, p, hi, hp, hg⟩
    exact ⟨i, p, hi, hp, subn i hg⟩

theorem regrow_get (H : HH) (id : Nat) (o : HObj) (i : Nat) : ((H.kill id).new o).get i = if i = H.next then some o else if i = id then none else H.get i := rfl

/-- an object goes on under a new name, in its block -/
theorem Sim.regrow {id : Nat} {p : Pl} {sz : Nat} {es es' : List (List HV)} {c : Array Value} {ty : TypeId} {y : List Value} (h : Sim φ w H) (hp : φ id = some p) (ho : H.get id = some (.arr false sz es))
    (hc : w.heap[p.blk]? = some (.cells c ty (0, 0))) (hl : ∀ x ∈ es', x.length = sz) (hlen : es'.length ≤ p.tot) (hy : y.length = c.size) (hv : VRs φ es'.flatten (y.take (es'.length * sz))) (h1 : ∀ v ∈ y.take (es'.length * sz), v.oneCell' = true) :
    Sim (φ.set H.next p) (w.setRow p.blk ⟨y⟩) ((H.kill id).new (.arr false sz es')) ∧ Fr φ H w (φ.set H.next p) ((H.kill id).new (.arr false sz es')) (w.setRow p.blk ⟨y⟩) := by
  obtain ⟨g1, g2, g3, g4, c', ty', fr', g5, g6, g7, g8, g9⟩ := h.ob id p _ hp ho
  rw [hc] at g5; cases g5
  obtain ⟨g10, _, g11⟩ := g9 rfl
  have hwr : Wr H id := ⟨_, ho, rfl⟩
  have hx := Ext.set (p := p) h.fresh
  have hlive : H.get id ≠ none := by rw [ho]; simp
  have old : ∀ i, i ≠ H.next → ∀ o, ((H.kill id).new (.arr false sz es')).get i = some o → i ≠ id ∧ H.get i = some o := by
    intro i hi o hg
    rw [regrow_get, if_neg hi] at hg
    split at hg
    · cases hg
    · exact ⟨by assumption, hg⟩
  have oldn : ∀ i, i ≠ H.next → ((H.kill id).new (.arr false sz es')).get i ≠ none → i ≠ id ∧ H.get i ≠ none := by
    intro i hi hg
    cases hgi : ((H.kill id).new (.arr false sz es')).get i with
    | none => exact absurd hgi hg
    | some o => have := old i hi o hgi; exact ⟨this.1, by rw [this.2]; simp⟩
  constructor
  · refine ⟨?_, ?_, ?_, ?_⟩
    · rintro i j q r hi hj hq ⟨o, hgo, hw⟩ hg
      unfold Phi.set at hi hj
      split at hi <;> split at hj
      · rename_i e1 e2; rw [e1, e2]
      · rename_i e1 e2
        cases hi
        have := oldn j e2 hg
        exact absurd (h.inj id j p r hp hj hq hwr this.2).symm this.1
      · rename_i e1 e2
        cases hj
        have := old i e1 o hgo
        exact absurd (h.inj i id q p hi hp hq ⟨o, this.2, hw⟩ hlive) this.1
      · rename_i e1 e2
        exact h.inj i j q r hi hj hq ⟨o, (old i e1 o hgo).2, hw⟩ (oldn j e2 hg).2
    · intro i q hi
      unfold Phi.set at hi
      split at hi
      · rename_i e; cases hi; subst e; exact ⟨Nat.lt_succ_self _, by simpa using (h.dom id p hp).2⟩
      · have := h.dom i q hi; exact ⟨Nat.lt_succ_of_lt this.1, by simpa using this.2⟩
    · intro i q o hi hg
      unfold Phi.set at hi
      split at hi
      · rename_i e; cases hi
        rw [regrow_get, if_pos e] at hg
        cases hg
        refine ⟨g1, g2, hlen, hl, ⟨y⟩, ty, (0, 0), setRow_heap w p.blk c ⟨y⟩ ty (0, 0) hc, ?_, ?_, ?_, fun _ => ⟨g10, rfl, by simp [hy, g11]⟩⟩
        · simp [hy, g11, g10]
        · simpa [g10] using VRs.ext hx hv
        · simpa [g10] using h1
      · rename_i e
        obtain ⟨o1, o2⟩ := old i e o hg
        refine ((h.ob i q o hi o2).keep (setRow_get _ _ _ _ ?_)).ext hx
        intro hb
        exact o1 (h.inj id i p q hp hi hb.symm hwr (by rw [o2]; simp)).symm
    · intro i hi
      have hi' : H.next + 1 ≤ i := hi
      rw [regrow_get, if_neg (by omega)]
      split
      · rfl
      · exact h.nx i (by omega)
  · refine ⟨hx, by simp, rfl, rfl, rfl, ?_, ?_, ?_, Nat.le_succ _⟩
    · intro b _ hb
      refine setRow_get _ _ _ _ ?_
      rintro rfl
      exact hb ⟨id, p, hp, rfl, hwr⟩
    · rintro b _ ⟨i, q, hi, hq, o, hg, hw⟩
      unfold Phi.set at hi
      split at hi
      · cases hi; exact ⟨id, p, hp, hq, hwr⟩
      · rename_i e; exact ⟨i, q, hi, hq, o, (old i e o hg).2, hw⟩
    · rintro b _ ⟨i, q, hi, hq, hg⟩
      unfold Phi.set at hi
      split at hi
      · cases hi; exact ⟨id, p, hp, hq, hlive⟩
      · rename_i e; exact ⟨i, q, hi, hq, (oldn i e hg).2⟩

theorem take_app_flat {sz : Nat} {es news : List (List HV)} {k : Nat} (hl : ∀ c ∈ es, c.length = sz) (hk : k ≤ es.length) : (es.take k ++ news ++ es.drop (k + news.length)).flatten = es.flatten.take (k * sz) ++ news.flatten ++ (es.drop (k + news.length)).flatten := by
  have h := elems_cells.flat_sub (off := 0) (ln := k) hl (by omega)
  simp only [Nat.zero_mul, List.drop_zero] at h
  rw [List.flatten_append, List.flatten_append, h]

theorem drop_flat {sz : Nat} {es : List (List HV)} {k : Nat} (hl : ∀ c ∈ es, c.length = sz) : (es.drop k).flatten = es.flatten.drop (k * sz) := by
  by_cases hk : k ≤ es.length
  · have h := elems_cells.flat_sub (off := k) (ln := es.length - k) hl (by omega)
    rw [List.take_of_length_le (by simp [flat_length hl, Nat.sub_mul]), List.take_of_length_le (by simp)] at h
    exact h.symm
  · rw [List.drop_of_length_le (by omega), List.drop_of_length_le]
    · rfl
    · rw [flat_length hl]; exact Nat.mul_le_mul_right _ (by omega)

/-- the cells of an object, in an append in place -/
theorem app_cells {sz len m tot : Nat} {es news : List (List HV)} {L : List Value} {nv : List Value} (hl : ∀ c ∈ es, c.length = sz) (hn : ∀ c ∈ news, c.length = sz) (hlen : len ≤ es.length) (hes : es.length ≤ tot) (hm : news.length = m) (hmt : len + m ≤ tot) (hL : L.length = tot * sz)
    (hv : VRs φ es.flatten (L.take (es.length * sz))) (h1 : ∀ v ∈ L.take (es.length * sz), v.oneCell' = true) (hnv : VRs φ news.flatten nv) (hn1 : ∀ v ∈ nv, v.oneCell' = true) :
    VRs φ (es.take len ++ news ++ es.drop (len + m)).flatten ((L.take (len * sz) ++ nv ++ L.drop (len * sz + nv.length)).take ((es.take len ++ news ++ es.drop (len + m)).length * sz)) ∧
      ∀ v ∈ (L.take (len * sz) ++ nv ++ L.drop (len * sz + nv.length)).take ((es.take len ++ news ++ es.drop (len + m)).length * sz), v.oneCell' = true := by
  subst hm
  have hnl : nv.length = news.length * sz := by rw [← hnv.length, flat_length hn]
  have b1 : len * sz ≤ es.length * sz := Nat.mul_le_mul_right _ hlen
  have b2 : es.length * sz ≤ tot * sz := Nat.mul_le_mul_right _ hes
  have b3 : (len + news.length) * sz ≤ tot * sz := Nat.mul_le_mul_right _ hmt
  rw [Nat.add_mul] at b3
  have hlen' : (es.take len ++ news ++ es.drop (len + news.length)).length = len + news.length + (es.length - (len + news.length)) := by simp; omega
  have key : (L.take (len * sz) ++ nv ++ L.drop (len * sz + nv.length)).take ((es.take len ++ news ++ es.drop (len + news.length)).length * sz) = (L.take (es.length * sz)).take (len * sz) ++ nv ++ (L.take (es.length * sz)).drop ((len + news.length) * sz) := by
    have h0 : (L.take (len * sz) ++ nv).length = (len + news.length) * sz := by simp [hnl, Nat.add_mul]; omega
    have h2 : (es.length - (len + news.length)) * sz = es.length * sz - (len + news.length) * sz := Nat.sub_mul ..
    rw [hlen', Nat.add_mul, List.take_append, h0, List.take_of_length_le (by omega), Nat.add_sub_cancel_left, List.take_take, Nat.min_eq_left b1, List.drop_take, h2, hnl, ← Nat.add_mul]
  rw [key]
  constructor
  · rw [take_app_flat hl hlen, drop_flat hl]
    exact ((hv.take _).append hnv).append (hv.drop _)
  · intro v hm
    simp only [List.append_assoc, List.mem_append] at hm
    rcases hm with hm | hm | hm
    · exact h1 v (List.mem_of_mem_take hm)
    · exact hn1 v hm
    · exact h1 v (List.mem_of_mem_drop hm)

theorem app_value {o : Oper} {d : Nat} {t : TypeId} {x y : Operand} {K : Env → HH → Prop} {Q : Exit → Act → World → Prop} {u : Value} {w' : World} (hd : o.dst = some d)
    (ho : o.op = .call { callee := .builtin .append, args := #[x, y], argTypes := #[t, t] }) (hr : (Builtin.append_ #[t, t] o.type #[a.eval x, a.eval y]).run P w = .ok u w') (h : After φ H w n B K (a.put (some d) u) w') : o.wp P a w (After φ H w n B K) Q := by
  refine wp_value hd (u := u) (w' := w') ?_ h
  simp [execOp, ho, resolve, invoke, builtin, hr]

theorem smallB_len {k b : Nat} (h : smallB k b) : k ≤ 1099511627776 ∧ k * b ≤ 1099511627776 := ⟨h.2, h.1⟩

theorem app_room (w : World) (t ty e ty' : TypeId) (i : TypeInfo) (ht : P.underlying t = some (.slice e)) (hi : P.info? e = some i)
    (g sLen sCap : Nat) (cur : Array Value) (hg : w.heap[g]? = some (.cells cur ty' (0, 0)))
    (a : Addr) (m c : Nat) (news : List Value) (hl : news.length = m * i.size) (hnews : ∀ j u, news[j]? = some u → w.cell? (a.add j) = some u) (h1 : ∀ u ∈ news, u.oneCell' = true)
    (hroom : sLen + m ≤ sCap) (hfit : sLen * i.size + news.length ≤ cur.size) :
    (Builtin.append_ #[t, t] ty #[.slice (some ⟨g, 0, none⟩) sLen sCap, .slice (some a) m c]).run P w =
      .ok (.slice (some ⟨g, 0, none⟩) (sLen + m) sCap) (w.setRow g ⟨cur.toList.take (sLen * i.size) ++ news ++ cur.toList.drop (sLen * i.size + news.length)⟩) := by
  have hf := run_firstCells_some (P := P) w i.size m a m c news hl hnews
  have hst := run_storeCells_at P g (sLen * i.size) ty' news 0 cur w hg (by simpa using hfit) h1
  simp only [Nat.add_zero] at hst
  simp [Builtin.append_, run_underlying ht, sizeOf, typeInfo, hi, Builtin.lenOf, hroom, hf, Addr.add_lit, hst]

theorem app_wp (hs : FS φ e H n B a w) {o : Oper} {t et : TypeId} {x y : Operand} {p q : O} {d m nb : Nat} {it : TypeInfo} {zv : Value} {K : Env → HH → Prop} {Q : Exit → Act → World → Prop} (hd : o.dst = some d) (hdn : d < n)
    (ho : o.op = .call { callee := .builtin .append, args := #[x, y], argTypes := #[t, t] }) (hu : P.underlying t = some (.slice et)) (hi : P.info? et = some it) (hm : 0 < m) (hsz : it.size = m) (hnb : it.bytes = nb) (hz : it.zero = some zv) (hzs : zv.cells.size = m)
    (hx : trO x = some p) (hy : trO y = some q)
    (hk : oK (e.v p) fun sv => oK (e.v q) fun xv => oK (H.elems m xv) fun news => oK (appV H m nb sv news) fun r => K (e.set d (.val r.1)) r.2) : o.wp P a w (After φ H w n B K) Q := by
  obtain ⟨sv, e1, xv, e2, news, e3, r, e4, hk⟩ := hk
  have hxr := trO_v hx hs e1
  have hyr := trO_v hy hs e2
  -- the second slice
  have hys : ∃ b l c, a.eval y = .slice b l c := by
    generalize a.eval y = z at hyr
    cases hyr <;> simp [HH.elems] at e3
    · exact ⟨_, _, _, rfl⟩
    · exact ⟨_, _, _, rfl⟩
  obtain ⟨yb, yl, yc, hye⟩ := hys
  rw [hye] at hyr
  obtain ⟨hnl, hnsz, nv, hnv, hnvl, hnv1, hyb, hycell⟩ := elems_cells hs.sim hyr e3
  have hfc : (Builtin.firstCells m 0 (.slice yb yl yc)).run P w = .ok #[] w := by
    cases yb with
    | none => simp [Builtin.firstCells]
    | some b => simp [Builtin.firstCells, loadCells, loadCellsFrom]
  -- nothing is added
  have nothing : news = [] → ∀ {b : Option Addr} {l c : Nat}, a.eval x = .slice b l c → l ≤ c → r = (sv, H) → o.wp P a w (After φ H w n B K) Q := by
    intro h0 b l c hxe hlc hr
    subst hr
    have hyl : yl = 0 := by rw [← hnl, h0]; rfl
    have hrun : (Builtin.append_ #[t, t] o.type #[a.eval x, a.eval y]).run P w = .ok (a.eval x) w := by
      rw [hxe, hye]
      have : (Builtin.firstCells it.size 0 (.slice yb 0 yc)).run P w = .ok #[] w := by rw [hsz]; subst hyl; exact hfc
      subst hyl
      cases b with
      | none => simp [Builtin.append_, run_underlying hu, sizeOf, typeInfo, hi, Builtin.lenOf, hlc, this]
      | some b => simp [Builtin.append_, run_underlying hu, sizeOf, typeInfo, hi, Builtin.lenOf, hlc, this, storeCells]
    exact app_value hd ho hrun ⟨_, _, φ, hk, hs.put hdn hxr, Fr.refl _ _ _⟩
  -- something is added: it has cells
  have some_y : news ≠ [] → ∃ ya, yb = some ya ∧ 0 < yl := by
    intro h0
    have : 0 < news.length := List.length_pos_iff.2 h0
    cases yb with
    | none => have := hyb rfl; omega
    | some ya => exact ⟨ya, rfl, by omega⟩
  have hnvl' : nv.length = yl * it.size := by rw [hnvl, hsz]
  -- a new row
  have grown : ∀ {H1 : HH} {olds : List (List HV)} {ov : List Value} {cap need : Nat} , FS φ e H1 n B a w → Fr φ H w φ H1 w → (∀ c ∈ olds, c.length = m) → VRs φ olds.flatten ov → (∀ v ∈ ov, v.oneCell' = true) → need = olds.length + news.length →
      (Builtin.append_ #[t, t] o.type #[a.eval x, a.eval y]).run P w = .ok (.slice (some ⟨w.heap.size, 0, none⟩) need (grownCap w need cap et)) (w.drew.alloc (.cells (ov.toArray ++ nv.toArray ++ Builtin.zeroCells zv.cells (grownCap w need cap et - need)) et)) →
      r = (.slice H1.next 0 need need false, H1.new (.arr false m (olds ++ news))) → o.wp P a w (After φ H w n B K) Q := by
    intro H1 olds ov cap need hs1 hf1 ho1 hov hov1 hneed hrun hr
    subst hr
    have hge := grownCap_ge w need cap et
    have hl : ∀ c ∈ olds ++ news, c.length = m := by
      intro c hc
      rcases List.mem_append.1 hc with h | h
      · exact ho1 c h
      · exact hnsz c h
    have hovl : ov.length = olds.length * m := by rw [← hov.length, flat_length ho1]
    have hbase : (olds ++ news).length * m = (ov ++ nv).length := by
      simp only [List.length_append, Nat.add_mul, hovl, hnvl, hnl]
    have harr : (ov.toArray ++ nv.toArray ++ Builtin.zeroCells zv.cells (grownCap w need cap et - need)) = ⟨ov ++ nv ++ (Builtin.zeroCells zv.cells (grownCap w need cap et - need)).toList⟩ := by
      apply Array.ext'; simp
    rw [harr] at hrun
    obtain ⟨φ', g1, g2⟩ := FS.newRow (sz := m) (k := grownCap w need cap et) (es := olds ++ news) (x := ov ++ nv ++ (Builtin.zeroCells zv.cells (grownCap w need cap et - need)).toList) (ty := et) (w0 := w.drew) (v := .slice H1.next 0 need need false) (u := .slice (some ⟨w.heap.size, 0, none⟩) need (grownCap w need cap et)) hs1 hdn hm hl
      (by rw [hbase, List.take_left, List.flatten_append]; exact hov.append hnv)
      (by
        rw [hbase, List.take_left]; intro v hv
        rcases List.mem_append.1 hv with h | h
        · exact hov1 v h
        · exact hnv1 v h)
      (by rw [List.length_append]; omega)
      (by simp only [List.length_append, hovl, hnvl, Array.length_toList, size_zeroCells, hzs, ← Nat.add_mul]; congr 1; rw [← hnl]; omega) rfl rfl rfl rfl
      (.slice _ _ _ _ _ ⟨w.heap.size, 0, m, grownCap w need cap et⟩ _ _ (Phi.set_self _ _ _) (.inl (by simp)) hge (by simp) (Nat.le_refl _) (.inl (by simp)))
    exact app_value hd ho hrun ⟨_, _, φ', hk, g1, hf1.trans g2⟩
  have hsb : ∀ {k cap : Nat}, smallB k nb → cap < k → Builtin.nextslicecap k cap * it.bytes ≤ 281474976710656 := by
    intro k cap hb hc
    obtain ⟨b1, b2⟩ := smallB_len hb
    refine growslice_fits hc ?_
    rw [hnb]; omega
  unfold appV at e4
  split at e4
  · -- nil
    have hxn : a.eval x = .slice none 0 0 := by
      generalize a.eval x = z at hxr
      cases hxr; rfl
    split at e4
    · rename_i h0
      cases e4
      exact nothing h0 hxn (Nat.le_refl _) rfl
    · rename_i h0
      split at e4
      · rename_i hb
        cases e4
        obtain ⟨ya, rfl, hy0⟩ := some_y h0
        have hb' := smallB_len hb
        have hrun := run_append_nil (P := P) w t o.type et it zv hu hi hz ya yl yc nv hnvl' (hycell ya rfl) hy0 (by rw [← hnl]; omega) (by rw [hnb, ← hnl]; omega)
        rw [← hxn, ← hye] at hrun
        refine grown (H1 := H) (olds := []) (ov := []) (cap := 0) (need := yl) hs (Fr.refl _ _ _) (by simp) .nil (by simp) (by simp [hnl]) (by simpa using hrun) (by simp [hnl])
      · cases e4
  · -- a slice
    rename_i id off len room ex
    split at e4
    · rename_i ro s es hg
      split at e4
      · rename_i hc
        obtain ⟨rfl, hle⟩ := hc
        generalize hxe : a.eval x = xv' at hxr
        cases hxr with
        | slice _ _ _ _ _ pl oo cap hp hoo hroom hex hlen htot =>
          split at e4
          · rename_i h0
            cases e4
            exact nothing h0 hxe (by omega) rfl
          · rename_i h0
            obtain ⟨ya, rfl, hy0⟩ := some_y h0
            obtain ⟨g1, g2, g3, g4, c, ty, fr, g5, g6, g7, g8, g9⟩ := hs.sim.ob id pl _ hp hg
            split at e4
            · -- in place for sure
              rename_i hfit
              split at e4
              · rename_i hro
                obtain ⟨rfl, rfl⟩ := hro
                cases e4
                obtain ⟨g10, rfl, g12⟩ := g9 rfl
                have hcap0 : cap ≠ 0 := by omega
                have hoo' : oo = 0 := by have := hoo.resolve_right hcap0; rw [g10] at this; simpa using this
                have htot' := htot.resolve_right hcap0
                subst hoo'
                have b3 : (len + news.length) * s ≤ pl.tot * s := Nat.mul_le_mul_right _ (by omega)
                rw [Nat.add_mul] at b3
                have hrun := app_room (P := P) w t o.type et ty it hu hi pl.blk len cap c g5 ya yl yc nv hnvl' (hycell ya rfl) hnv1 (by omega) (by rw [hsz, g12, hnvl, ← hnl]; omega)
                rw [← hye, ← hxe, hsz] at hrun
                rw [g10, List.drop_zero] at g7 g8
                have hac := app_cells (L := c.toList) (nv := nv) (tot := pl.tot) g4 hnsz (show len ≤ es.length by omega) g3 rfl (by omega) (by simpa using g12) g7 g8 hnv hnv1
                have hst := Sim.store (es' := es.take len ++ news ++ es.drop (len + news.length)) (y := c.toList.take (len * s) ++ nv ++ c.toList.drop (len * s + nv.length)) hs.sim hp hg g5
                  (by
                    intro z hz
                    simp only [List.append_assoc, List.mem_append] at hz
                    rcases hz with h | h | h
                    · exact g4 z (List.mem_of_mem_take h)
                    · exact hnsz z h
                    · exact g4 z (List.mem_of_mem_drop h))
                  (by simp; omega) (by simp [hnvl, ← hnl]; omega) hac.1 hac.2
                simp only [Nat.zero_add] at hk
                refine app_value hd ho hrun ⟨_, _, φ, hk, (hs.world hst.1 hst.2).put hdn ?_, hst.2⟩
                show VR φ _ _
                rw [hnl] at hfit ⊢
                exact .slice id 0 _ room ex pl 0 cap hp (.inl (by simp [g10])) hroom hex hfit (.inl htot')
              · cases e4
            · rename_i hnfit
              split at e4
              · rename_i hb
                have hcell : ∀ (k : Nat), off * s + k ≤ es.length * s → ∀ j u, ((c.toList.drop (pl.off + off * s)).take k)[j]? = some u → cap ≠ 0 → w.cell? ((⟨pl.blk, oo, none⟩ : Addr).add j) = some u := by
                  intro k hk j u hj hc0
                  rw [hoo.resolve_right hc0, add_mk, World.cell?, g5, g1]
                  rw [List.getElem?_take, List.getElem?_drop] at hj
                  split at hj
                  · simpa using hj
                  · cases hj
                have hb4 : off * s + len * s ≤ es.length * s := by rw [← Nat.add_mul]; exact Nat.mul_le_mul_right _ hle
                have hcs4 : pl.off + es.length * s ≤ c.size := by have := Nat.mul_le_mul_right s g3; omega
                have hov : VRs φ ((es.drop off).take len).flatten ((c.toList.drop (pl.off + off * s)).take (len * s)) := by
                  have h5 := (g7.drop (off * s)).take (len * s)
                  rw [elems_cells.flat_sub g4 hle, List.drop_take, List.take_take, List.drop_drop, Nat.min_eq_left (by omega)] at h5
                  exact h5
                have hov1 : ∀ v ∈ (c.toList.drop (pl.off + off * s)).take (len * s), v.oneCell' = true := by
                  intro v hv
                  refine g8 v ?_
                  have : (c.toList.drop (pl.off + off * s)).take (len * s) = (((c.toList.drop pl.off).take (es.length * s)).drop (off * s)).take (len * s) := by
                    rw [List.drop_take, List.take_take, List.drop_drop, Nat.min_eq_left (by omega)]
                  rw [this] at hv
                  exact List.mem_of_mem_drop (List.mem_of_mem_take hv)
                have hold : ∀ z ∈ (es.drop off).take len, z.length = s := fun z hz => g4 z (List.mem_of_mem_drop (List.mem_of_mem_take hz))
                have holdl : ((es.drop off).take len).length = len := by simp; omega
                -- the machine makes a new row
                have realloc : ∀ {H1 : HH}, cap < len + news.length → FS φ e H1 n B a w → Fr φ H w φ H1 w → r = (.slice H1.next 0 (len + news.length) (len + news.length) false, H1.new (.arr false s ((es.drop off).take len ++ news))) → o.wp P a w (After φ H w n B K) Q := by
                  intro H1 hcap hs1 hf1 hr
                  have hrun := run_append_grow (P := P) w t o.type et it zv hu hi hz ⟨pl.blk, oo, none⟩ len cap ((c.toList.drop (pl.off + off * s)).take (len * s)) (by rw [← hov.length, flat_length hold, holdl, hsz])
                    (by
                      intro j u hj
                      by_cases hc0 : cap = 0
                      · have : len = 0 := by omega
                        subst this; simp at hj
                      · exact hcell (len * s) hb4 j u hj hc0)
                    ya yl yc nv hnvl' (hycell ya rfl) (by omega) (by have := (smallB_len hb).1; omega) (by rw [hnl] at hb hcap; exact hsb hb hcap)
                  rw [← hye, ← hxe] at hrun
                  rw [hnl] at hr
                  exact grown (olds := (es.drop off).take len) (cap := cap) (need := len + yl) hs1 hf1 hold hov hov1 (by rw [holdl, hnl]) hrun hr
                split at e4
                · rename_i hexx
                  cases e4
                  exact realloc (by have := hex hexx; omega) hs (Fr.refl _ _ _) rfl
                · split at e4
                  · rename_i hc3
                    obtain ⟨rfl, rfl, rfl⟩ := hc3
                    cases e4
                    obtain ⟨hk1, hk2⟩ := hs.sim.kill id
                    have hsk := hs.world hk1 hk2
                    by_cases hcap : es.length + news.length ≤ cap
                    · -- there was room: the row goes on in its place
                      obtain ⟨g10, rfl, g12⟩ := g9 rfl
                      have hcap0 : cap ≠ 0 := by have := List.length_pos_iff.2 h0; omega
                      have hoo' : oo = 0 := by have := hoo.resolve_right hcap0; rw [g10] at this; simpa using this
                      have htot' := htot.resolve_right hcap0
                      subst hoo'
                      have b3 : (es.length + news.length) * s ≤ pl.tot * s := Nat.mul_le_mul_right _ (by omega)
                      rw [Nat.add_mul] at b3
                      have hrun := app_room (P := P) w t o.type et ty it hu hi pl.blk es.length cap c g5 ya yl yc nv hnvl' (hycell ya rfl) hnv1 (by omega) (by rw [hsz, g12, hnvl, ← hnl]; omega)
                      rw [← hye, ← hxe, hsz] at hrun
                      rw [g10, List.drop_zero] at g7 g8
                      have hac := app_cells (L := c.toList) (nv := nv) (tot := pl.tot) g4 hnsz (Nat.le_refl es.length) g3 rfl (by omega) (by simpa using g12) g7 g8 hnv hnv1
                      have hes' : es.take es.length ++ news ++ es.drop (es.length + news.length) = es ++ news := by simp
                      rw [hes'] at hac
                      have hst := Sim.regrow (es' := es ++ news) (y := c.toList.take (es.length * s) ++ nv ++ c.toList.drop (es.length * s + nv.length)) hs.sim hp hg g5
                        (by
                          intro z hz
                          rcases List.mem_append.1 hz with h | h
                          · exact g4 z h
                          · exact hnsz z h)
                        (by simp; omega) (by simp [hnvl, ← hnl]; omega) hac.1 hac.2
                      refine app_value hd ho hrun ⟨_, _, _, hk, (hs.world hst.1 hst.2).put hdn ?_, hst.2⟩
                      show VR (φ.set H.next pl) _ _
                      rw [hnl] at hcap ⊢
                      exact .slice H.next 0 _ _ false pl 0 cap (Phi.set_self _ _ _) (.inl (by simp [g10])) hcap (by simp) (Nat.le_refl _) (.inl htot')
                    · exact realloc (H1 := H.kill id) (by omega) hsk hk2 (by simp)
                  · cases e4
              · cases e4
      · cases e4
    · cases e4
  · cases e4
/-! ### a store into a map -/
/-- an object that may be written is another one now -/
theorem Sim.putO {id : Nat} {p : Pl} {o o' : HObj} {w' : World} (h : Sim φ w H) (hp : φ id = some p) (ho : H.get id = some o) (hwr' : o.wr = true) (hsz : w'.heap.size = w.heap.size) (h1 : w'.os = w.os) (h2 : w'.tape = w.tape) (h3 : w'.output = w.output)
    (hk : ∀ b, b ≠ p.blk → w'.heap[b]? = w.heap[b]?) (hob : ObR φ w' p o') : Sim φ w' (H.put id o') ∧ Fr φ H w φ (H.put id o') w' := by
  have hwr : Wr H id := ⟨_, ho, hwr'⟩
  have wrp : ∀ i, Wr (H.put id o') i → Wr H i := by
    rintro i ⟨q, hi, hw⟩
    simp only [HH.put_get] at hi
    split at hi
    · rename_i e; rw [e]; exact hwr
    · exact ⟨q, hi, hw⟩
  constructor
  · refine ⟨?_, ?_, ?_, ?_⟩
    · intro i j q r hi hj hq hw hg
      refine h.inj i j q r hi hj hq (wrp i hw) ?_
      simp only [HH.put_get] at hg
      split at hg
      · rename_i e; rw [e, ho]; simp
      · exact hg
    · intro i q hi
      have := h.dom i q hi
      exact ⟨this.1, by rw [hsz]; exact this.2⟩
    · intro i q o1 hi hg
      simp only [HH.put_get] at hg
      split at hg
      · rename_i e; subst e; cases hg
        rw [hp] at hi; cases hi
        exact hob
      · rename_i e
        refine (h.ob i q o1 hi hg).keep (hk _ ?_)
        intro hb
        exact e (h.inj id i p q hp hi hb.symm hwr (by rw [hg]; simp)).symm
    · intro i hi
      simp only [HH.put_get]
      have := h.nx i hi
      split
      · rename_i e; rw [e, ho] at this; cases this
      · exact this
  · refine ⟨Ext.refl φ, by omega, h1, h2, h3, ?_, ?_, ?_, Nat.le_refl _⟩
    · intro b _ hb
      refine hk b ?_
      rintro rfl
      exact hb ⟨id, p, hp, rfl, hwr⟩
    · rintro b _ ⟨i, q, hi, hq, hw⟩
      exact ⟨i, q, hi, hq, wrp i hw⟩
    · rintro b _ ⟨i, q, hi, hq, hw⟩
      refine ⟨i, q, hi, hq, ?_⟩
      simp only [HH.put_get] at hw
      split at hw
      · rename_i e; rw [e, ho]; simp
      · exact hw

theorem leaf_unique {k : Leaf} {a b : HV} {r : Bool} {x y : Value} (h : eqS k a b = some r) (hx : VR φ a x) (hy : VR φ a y) : x = y ∧ ∀ n, Instr.sameBits n x x = true := by
  unfold eqS at h
  split at h
  · cases hx; cases hy; exact ⟨rfl, fun n => by cases n <;> simp [Instr.sameBits]⟩
  · cases hx; cases hy; exact ⟨rfl, fun n => by cases n <;> simp [Instr.sameBits]⟩
  · rw [str_eq hx, str_eq hy]; exact ⟨rfl, fun n => by cases n <;> simp [Instr.sameBits, MapKept.bytes_beq]⟩
  · cases h

theorem leaves_unique : ∀ {ks : List Leaf} {l l' : List HV} {r : Bool} {x y : List Value}, eqL ks l l' = some r → VRs φ l x → VRs φ l y → x = y ∧ ∀ v ∈ x, ∀ n, Instr.sameBits n v v = true
  | [], [], [], _, _, _, _, .nil, .nil => ⟨rfl, by simp⟩
  | k :: ks, a :: l, b :: l', r, _, _, h, .cons _ u _ s hu hs, .cons _ z _ t hz ht => by
    simp only [eqL] at h
    obtain ⟨q, h1, h⟩ := bind_some h
    obtain ⟨q', h2, _⟩ := map_some h
    obtain ⟨rfl, h3⟩ := leaf_unique h1 hu hz
    obtain ⟨rfl, h4⟩ := leaves_unique h2 hs ht
    refine ⟨rfl, ?_⟩
    intro v hv
    rcases List.mem_cons.1 hv with rfl | hv
    · exact h3
    · exact h4 v hv
  | [], _ :: _, _, _, _, _, h, _, _ => by simp [eqL] at h
  | [], [], _ :: _, _, _, _, h, _, _ => by simp [eqL] at h
  | _ :: _, [], _, _, _, _, h, _, _ => by simp [eqL] at h
  | _ :: _, _ :: _, [], _, _, _, h, _, _ => by simp [eqL] at h

theorem zip_self {α : Type} : ∀ {u : List α} {a b : α}, (a, b) ∈ u.zip u → a = b ∧ a ∈ u
  | [], a, b, h => by simp at h
  | c :: u, a, b, h => by
    simp only [List.zip_cons_cons, List.mem_cons, Prod.mk.injEq] at h
    rcases h with ⟨rfl, rfl⟩ | h
    · simp
    · have := zip_self h; exact ⟨this.1, by simp [this.2]⟩
theorem key_unique {ag : Bool} {ks : List Leaf} {k k' : HV} {r : Bool} {x y : Value} (h : eqV ag ks k k' = some r) (hx : VR φ k x) (hy : VR φ k y) : x = y ∧ Instr.sameBits 10000 x x = true := by
  cases ag with
  | false =>
    rw [eqV_false] at h
    obtain ⟨h1, h2⟩ := leaves_unique h (VRs.single hx) (VRs.single hy)
    cases h1
    exact ⟨rfl, h2 x (by simp) _⟩
  | true =>
    unfold eqV at h
    split at h <;> try (simp_all; done)
    cases hx with
    | agg _ u hu _ =>
      cases hy with
      | agg _ z hz _ =>
        obtain ⟨rfl, h2⟩ := leaves_unique h hu hz
        refine ⟨rfl, ?_⟩
        simp only [Instr.sameBits, beq_self_eq_true, Bool.true_and, List.all_eq_true]
        rintro ⟨a, b⟩ hab
        have := zip_self hab
        obtain ⟨rfl, hm⟩ := this
        exact h2 a hm _

theorem setE_find {ag : Bool} {ks : List Leaf} {k v : HV} : ∀ {es es' : List (HV × HV)}, setE ag ks k v es = some es' → ∃ r, findE ag ks k es = some r ∧ (r = none → es' = es ++ [(k, v)]) ∧ (∀ j, First ag ks k es j → es' = es.set j (k, v) ∧ (∃ u, es[j]? = some (k, u)) ∧ eqV ag ks k k = some true)
  | [], es', h => by
    simp [setE] at h; subst h
    exact ⟨none, rfl, fun _ => rfl, fun j hj => hj.elim⟩
  | (k', u) :: r, es', h => by
    simp only [setE] at h
    obtain ⟨b, h1, h⟩ := bind_some h
    cases b with
    | true =>
      simp at h; subst h
      have hk := eqV_eq h1
      subst hk
      refine ⟨some u, by simp [findE, h1], fun h => (by cases h), fun j hj => ?_⟩
      cases j with
      | zero => exact ⟨rfl, ⟨u, rfl⟩, h1⟩
      | succ j => rw [First, h1] at hj; simp at hj
    | false =>
      simp at h
      obtain ⟨es1, h2, rfl⟩ := h
      obtain ⟨q, h3, h4, h5⟩ := setE_find h2
      refine ⟨q, by simp [findE, h1, h3], fun h => (by rw [h4 h]; rfl), fun j hj => ?_⟩
      cases j with
      | zero => rw [First, h1] at hj; cases hj
      | succ j =>
        obtain ⟨g1, g2, g3⟩ := h5 j hj.2
        exact ⟨by rw [g1]; rfl, by simpa using g2, g3⟩

theorem mapupd_wp (hs : FS φ e H n B a w) {o : Oper} {t kt et : TypeId} {x y z : Operand} {m k q : O} {ks : List Leaf} {K : Env → HH → Prop} {Q : Exit → Act → World → Prop} (hd : o.dst = none) (ho : o.op = .mapUpdate t x y z) (hu : P.underlying t = some (.map kt et)) (hf : flatK P 9 kt = some ks)
    (hx : trO x = some m) (hy : trO y = some k) (hz : trO z = some q)
    (hk : oK (e.v k) fun kk => oK (e.v q) fun v => keyOk (agK P kt) ks kk = true ∧ ∃ id es, e.v m = some (.map id) ∧ H.get id = some (.map es) ∧ oK (setE (agK P kt) ks kk v es) fun es' => K e (H.put id (.map es'))) :
    o.wp P a w (After φ H w n B K) Q := by
  obtain ⟨kk, h1, v, h2, h3, id, es, h4, h5, es', h6, h7⟩ := hk
  have hkr := trO_v hy hs h1
  have hvr := trO_v hz hs h2
  have hmr := trO_v hx hs h4
  obtain ⟨l, hkl, hll⟩ := keyOk_sound hkr h3
  have hck : (Instr.checkKey false 10000 kt (a.eval y)).run P w = .ok () w := by rw [hkl]; exact checkKey_ok hf (show 9 ≤ 10000 by omega) hll.symm w
  generalize hxm : a.eval x = xm at hmr
  cases hmr with
  | map _ p hp =>
    obtain ⟨ents, g1, g2, g3⟩ := hs.sim.ob id p _ hp h5
    have he : EntR φ es ents.toList := EntR.of (by simpa using g2) (fun i k v hi => by obtain ⟨m, a, b, c, _⟩ := g3 i k v hi; exact ⟨m, by simpa using a, b, c⟩)
    obtain ⟨r, r1, r2, r3⟩ := setE_find h6
    obtain ⟨fq, hfq, hfd⟩ := findKey_sound hf hkr he r1 w
    have hlt := (hs.sim.dom id p hp).2
    have fin : ∀ {ents' : Array MapEntry} {clk : Nat}, (Instr.mapUpdate t (.map (some p.blk)) (a.eval y) (a.eval z)).run P w = .ok () { w with heap := w.heap.setIfInBounds p.blk (.map ents' clk) } → ents'.size = es'.length → clk = es'.length →
        (∀ i k v, es'[i]? = some (k, v) → ∃ m : MapEntry, ents'[i]? = some m ∧ VR φ k m.key ∧ VR φ v m.val ∧ m.born = i) → o.wp P a w (After φ H w n B K) Q := by
      intro ents' clk hrun hsz hclk hev
      obtain ⟨q1, q2⟩ := Sim.putO (o' := .map es') (w' := { w with heap := w.heap.setIfInBounds p.blk (.map ents' clk) }) hs.sim hp h5 rfl (by simp) rfl rfl rfl (fun b hb => by simp [Array.getElem?_setIfInBounds_ne (Ne.symm hb)])
        ⟨ents', by simp [hlt, hclk], hsz, hev⟩
      unfold Oper.wp
      have : (execOp a.eval o).run P w = .ok .skip { w with heap := w.heap.setIfInBounds p.blk (.map ents' clk) } := by
        simp [execOp, ho, hxm, hrun]
      rw [this, Oper.upon_skip, hd]
      exact ⟨e, _, φ, h7, hs.world q1 q2, q2⟩
    cases r with
    | none =>
      cases hfd
      have hes := r2 rfl
      subst hes
      refine fin (ents' := ents.push { key := a.eval y, val := a.eval z, born := es.length }) (clk := es.length + 1) ?_ (by simp [g2]) (by simp) ?_
      · simp [Instr.mapUpdate, run_underlying hu, MapKept.run_getObj_map g1, hck, hfq, MapKept.run_setObj_map _ g1, Result.andThen]
      · intro i k0 v0 hi
        by_cases hil : i < es.length
        · rw [List.getElem?_append_left hil] at hi
          obtain ⟨m, a1, a2⟩ := g3 i k0 v0 hi
          exact ⟨m, by rw [Array.getElem?_push_lt (by omega)]; rw [← a1]; simp [g2, hil], a2⟩
        · have hi' : i = es.length := by
            have := (List.getElem?_eq_some_iff.1 hi).1
            simp at this; omega
          subst hi'
          simp at hi
          obtain ⟨rfl, rfl⟩ := hi
          have hp' := Array.getElem?_push_size (xs := ents) (x := ({ key := a.eval y, val := a.eval z, born := es.length } : MapEntry))
          rw [g2] at hp'
          exact ⟨_, hp', hkr, hvr, rfl⟩
    | some u0 =>
      obtain ⟨j, u, k', rfl, hj, hu0, hfirst⟩ := hfd
      obtain ⟨s1, ⟨u1, s2⟩, s3⟩ := r3 j hfirst
      subst s1
      rw [s2] at hj
      cases hj
      obtain ⟨me, b1, b2, b3, b4⟩ := g3 j kk u0 s2
      obtain ⟨c1, c2⟩ := key_unique s3 hkr b2
      refine fin (ents' := ents.modify j fun e => { e with key := a.eval y, val := a.eval z }) (clk := es.length) ?_ (by simp [g2]) (by simp) ?_
      · have hmod : (ents.modify j fun e => { e with key := a.eval y, val := a.eval z }) = ents.modify j fun e => { e with key := a.eval y, val := a.eval z } := rfl
        simp only [Nat.zero_add] at hfq
        simp [Instr.mapUpdate, run_underlying hu, MapKept.run_getObj_map g1, hck, hfq, b1, Instr.keyThatStays, ← c1, c2, MapKept.run_setObj_map _ g1, Result.andThen]
      · intro i k0 v0 hi
        by_cases hij : i = j
        · subst hij
          have hlt2 := (List.getElem?_eq_some_iff.1 s2).1
          rw [List.getElem?_set_self hlt2] at hi
          cases hi
          exact ⟨{ me with key := a.eval y, val := a.eval z }, by rw [Array.getElem?_modify, if_pos rfl, b1]; rfl, hkr, hvr, b4⟩
        · rw [List.getElem?_set_ne (Ne.symm hij)] at hi
          obtain ⟨m, a1, a2⟩ := g3 i k0 v0 hi
          exact ⟨m, by rw [Array.getElem?_modify, if_neg (Ne.symm hij), a1], a2⟩
end Go.HL
