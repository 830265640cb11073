/- An instruction goes past what has put a value into one temporary. Conditions: none. -/
import Derived.Test.YtkopmkojmhlgcaaDoorH17
namespace Go.HL
variable {e e' : Env} {h h' : HH} {P : Program}

/-- a temporary, and the local variable that it is -/
def Env.pt (e : Env) (d : Nat) (v : TV) (cl : Option (List HV)) : Env :=
  { t := fun n => if n = d then v else (e.t n).clear d, l := fun n => if n = d then cl else e.l n }
@[simp] theorem Env.pt_t (e : Env) (d : Nat) (v : TV) (cl : Option (List HV)) (n : Nat) : (e.pt d v cl).t n = if n = d then v else (e.t n).clear d := rfl
@[simp] theorem Env.pt_l (e : Env) (d : Nat) (v : TV) (cl : Option (List HV)) (n : Nat) : (e.pt d v cl).l n = if n = d then cl else e.l n := rfl
theorem Env.set_pt (e : Env) (d : Nat) (v : TV) : e.set d v = e.pt d (v.clear d) none := rfl
theorem Env.al_pt (e : Env) (d : Nat) (cs : List HV) : e.al d cs = e.pt d (.loc d 0) (some cs) := rfl
def Env.ptO (e : Env) (d : Option Nat) (v : TV) : Env := match d with
  | some d => e.pt d v none
  | none => e
theorem Env.setO_pt (e : Env) (d : Option Nat) (v : TV) (hv : ∀ l f, v ≠ .loc l f) : e.setO d v = e.ptO d v := by
  cases d with
  | none => rfl
  | some d => cases v <;> first | rfl | exact absurd rfl (hv _ _)

theorem TV.clear_eq {v : TV} {d : Nat} (h : ∀ f, v ≠ .loc d f) : v.clear d = v := by
  cases v with
  | loc l f =>
    rw [TV.clear_loc, if_neg]
    rintro rfl
    exact h f rfl
  | _ => rfl
theorem TV.clear_loc_of {v : TV} {d l f : Nat} (h : v.clear d = .loc l f) : v = .loc l f ∧ l ≠ d := by
  cases v with
  | loc l' f' =>
    rw [TV.clear_loc] at h
    split at h
    · cases h
    · rename_i hn; cases h; exact ⟨rfl, hn⟩
  | val u => cases h
  | bad => cases h
theorem TV.clear_comm (v : TV) (a b : Nat) : (v.clear a).clear b = (v.clear b).clear a := by
  cases v with
  | loc l f =>
    simp only [TV.clear_loc]
    split <;> split <;> simp_all
  | _ => rfl

theorem Env.pt_comm (e : Env) {d d' : Nat} {v v' : TV} {cl cl' : Option (List HV)} (hd : d ≠ d') (hv : ∀ f, v ≠ .loc d' f) (hv' : ∀ f, v' ≠ .loc d f) : (e.pt d v cl).pt d' v' cl' = (e.pt d' v' cl').pt d v cl := by
  unfold Env.pt
  congr 1
  · funext n
    by_cases h1 : n = d <;> by_cases h2 : n = d'
    · exact absurd (h1.symm.trans h2) hd
    · simp [h1, hd, TV.clear_eq hv]
    · simp [h2, Ne.symm hd, TV.clear_eq hv']
    · simp [h1, h2, TV.clear_comm]
  · funext n
    by_cases h1 : n = d <;> by_cases h2 : n = d'
    · exact absurd (h1.symm.trans h2) hd
    · simp [h1, hd]
    · simp [h2, Ne.symm hd]
    · simp [h1, h2]

theorem Env.pt_setL (e : Env) {d l : Nat} {v : TV} {cl : Option (List HV)} {cs : List HV} (hd : l ≠ d) : (e.pt d v cl).setL l cs = (e.setL l cs).pt d v cl := by
  unfold Env.pt Env.setL
  congr 1
  funext n
  by_cases h1 : n = d <;> by_cases h2 : n = l
  · exact absurd (h2.symm.trans h1) hd
  · simp [h1, Ne.symm hd]
  · simp [h2, hd]
  · simp [h1, h2]

/-- what an instruction leaves of the state ahead of it -/
structure Left (j : HG) (e : Env) (h : HH) (e' : Env) (h' : HH) : Prop where
  t : ∀ t, j.d ≠ some t → e'.t t = e.t t ∨ ∃ d f, j.d = some d ∧ e.t t = .loc d f ∧ e'.t t = .bad
  loc : ∀ t l f, e'.t t = .loc l f → (∃ t' f', e.t t' = .loc l f') ∨ (j.i.isAl = true ∧ j.d = some l)
  l : j.i.isSt = false → ∀ l, j.d ≠ some l → e'.l l = e.l l
  hp : j.i.keeps = true → h.get h.next = none → HLe h h'

theorem Left.pt {j : HG} {d : Nat} {v : TV} {cl : Option (List HV)} (hd : j.d = some d) (hv : ∀ l f, v = .loc l f → (∃ t f', e.t t = .loc l f') ∨ (j.i.isAl = true ∧ l = d)) (hh : j.i.keeps = true → h.get h.next = none → HLe h h') : Left j e h (e.pt d v cl) h' where
  t := by
    intro t ht
    rw [hd] at ht
    have hn : t ≠ d := fun h => ht (by rw [h])
    simp only [Env.pt_t, if_neg hn]
    by_cases hc : ∃ f, e.t t = .loc d f
    · obtain ⟨f, hf⟩ := hc
      exact .inr ⟨d, f, hd, hf, by rw [hf]; simp⟩
    · exact .inl (TV.clear_eq fun f hf => hc ⟨f, hf⟩)
  loc := by
    intro t l f hl
    simp only [Env.pt_t] at hl
    split at hl
    · rcases hv l f hl with h | ⟨h, rfl⟩
      · exact .inl h
      · exact .inr ⟨h, hd⟩
    · exact .inl ⟨t, f, (TV.clear_loc_of hl).1⟩
  l := by
    intro _ l hl
    rw [hd] at hl
    have hn : l ≠ d := fun h => hl (by rw [h])
    simp only [Env.pt_l, if_neg hn]
  hp := hh

theorem Left.same {j : HG} (hh : j.i.keeps = true → h.get h.next = none → HLe h h') : Left j e h e h' where
  t := fun t _ => .inl rfl
  loc := fun t l f hl => .inl ⟨t, f, hl⟩
  l := fun _ _ _ => rfl
  hp := hh
theorem Left.setL {j : HG} {l : Nat} {cs : List HV} (hs : j.i.isSt = true) (hh : j.i.keeps = true → h.get h.next = none → HLe h h') : Left j e h (e.setL l cs) h' where
  t := fun t _ => .inl rfl
  loc := fun t l f hl => .inl ⟨t, f, hl⟩
  l := fun hn => by rw [hs] at hn; cases hn
  hp := hh
theorem Left.ptO {j : HG} {v : TV} (hv : ∀ l f, v ≠ .loc l f) (hh : j.i.keeps = true → h.get h.next = none → HLe h h') : Left j e h (e.ptO j.d v) h' := by
  cases hd : j.d with
  | none => exact .same hh
  | some d => exact .pt hd (fun l f h => absurd h (hv l f)) hh

/-- the instruction does with e what it does with π e -/
structure Past (π : Env → Env) (j : HG) (e : Env) : Prop where
  us : Ag j.us e (π e)
  lo : AgL j.us e (π e)
  put : ∀ d, j.d = some d → ∀ v cl, (∀ l f, v = .loc l f → l = d ∨ ∃ t f', e.t t = .loc l f') → (π e).pt d v cl = π (e.pt d v cl)
  setL : ∀ t ∈ j.us, ∀ l f cs, e.t t = .loc l f → (π e).setL l cs = π (e.setL l cs)

theorem Past.id (j : HG) (e : Env) : Past (fun e => e) j e := ⟨fun _ _ => rfl, fun _ _ _ _ _ => rfl, fun _ _ _ _ _ => rfl, fun _ _ _ _ _ _ => rfl⟩

theorem Past.pt {j : HG} {d : Nat} {v : TV} {cl : Option (List HV)} (hu : d ∉ j.us) (hj : j.d ≠ some d) (hv : ∀ f d', j.d = some d' → v ≠ .loc d' f) (hl : ∀ t f, e.t t ≠ .loc d f) : Past (fun e => e.pt d v cl) j e where
  us := by
    intro t ht
    have hn : t ≠ d := fun h => hu (h ▸ ht)
    simp only [Env.pt_t, if_neg hn]
    exact TV.clear_eq fun f => hl t f
  lo := by
    intro t ht l f hf
    have hn : l ≠ d := fun h => hl t f (h ▸ hf)
    simp only [Env.pt_l, if_neg hn]
  put := by
    intro d' hd' v' cl' hv'
    have hn : d ≠ d' := fun h => hj (h ▸ hd')
    refine Env.pt_comm e hn (fun f => hv f d' hd') fun f hf => ?_
    rcases hv' d f hf with h | ⟨t, f', h⟩
    · exact hn h
    · exact hl t f' h
  setL := by
    intro t ht l f cs hf
    exact Env.pt_setL e fun h => hl t f (h ▸ hf)

theorem Past.ptO {π : Env → Env} {j : HG} (h : Past π j e) {v : TV} (hv : ∀ l f, v ≠ .loc l f) : (π e).ptO j.d v = π (e.ptO j.d v) := by
  cases hd : j.d with
  | none => rfl
  | some d => exact h.put d hd v none fun l f h => absurd h (hv l f)

theorem HLe.refl (h : HH) : HLe h h := fun _ _ h => h
theorem HLe.new {o : HObj} (hn : h.get h.next = none) : HLe h (h.new o) := fun id o' hg => by
  simp only [HH.new_get]
  rw [if_neg]
  · exact hg
  · rintro rfl; rw [hn] at hg; cases hg

theorem hI_past {π : Env → Env} {j : HG} (hd : j.d = j.i.dst) (hp : Past π j e) {K : Env → HH → Prop} (hk : hI (TS P) j.i K (π e) h) : hI (TS P) j.i (fun e' h' => K (π e') h' ∧ Left j e h e' h') e h := by
  have hus : Ag j.i.us e (π e) := hp.us.right
  have hlo : AgL j.i.us e (π e) := fun t ht => hp.lo t (List.mem_append_right _ ht)
  have hmem : ∀ t ∈ j.i.us, t ∈ j.us := fun t ht => List.mem_append_right _ ht
  have keep : ∀ {b : Bool}, j.i.keeps = b → b = false → j.i.keeps = true → h.get h.next = none → HLe h h := fun _ _ _ _ => .refl h
  cases hi : j.i with
  | pur d op =>
    rw [hi] at hk hd hus hlo
    obtain ⟨tv, h1, h2⟩ := hk
    rw [PO.ev_ag hus fun ⟨_, _, _, hx⟩ => hlo] at h1
    refine ⟨tv, h1, ?_, ?_⟩
    · rw [Env.set_pt] at h2 ⊢
      rwa [hp.put d hd _ _ (fun l f hl => .inr (PO.ev_loc (by rw [h1, (TV.clear_loc_of hl).1])))] at h2
    · rw [Env.set_pt]
      exact .pt hd (fun l f hl => .inl (PO.ev_loc (by rw [h1, (TV.clear_loc_of hl).1]))) fun _ _ => .refl h
  | alloc d cs =>
    rw [hi] at hk hd
    simp only [hI, Env.al_pt] at hk ⊢
    refine ⟨?_, ?_⟩
    · rwa [hp.put d hd _ _ (fun l f hl => by cases hl; exact .inl rfl)] at hk
    · exact .pt hd (fun l f hl => by cases hl; exact .inr ⟨by rw [hi]; rfl, rfl⟩) fun _ _ => .refl h
  | box d n x =>
    rw [hi] at hk hd hus
    obtain ⟨v, h1, h2, h3⟩ := hk
    rw [hus.v (o := x)] at h1
    rw [Env.al_pt] at h3
    refine ⟨v, h1, h2, ?_, ?_⟩
    · rw [Env.al_pt]
      rwa [hp.put d hd _ _ (fun l f hl => by cases hl; exact .inl rfl)] at h3
    · exact .pt hd (fun l f hl => by cases hl; exact .inr ⟨by rw [hi]; rfl, rfl⟩) fun _ _ => .refl h
  | new d op =>
    rw [hi] at hk hd hus
    obtain ⟨r, h1, h2⟩ := hk
    rw [NO.ev_ag hus] at h1
    rw [Env.set_pt] at h2
    refine ⟨r, h1, ?_, ?_⟩
    · rw [Env.set_pt]
      rwa [hp.put d hd _ _ (fun l f hl => by cases hl)] at h2
    · exact .pt hd (fun l f hl => by cases hl) fun _ hn => .new hn
  | store n p x =>
    rw [hi] at hk hd hus hlo hmem
    obtain ⟨v, h1, r, h2, h3⟩ := hk
    rw [hus.right.v (o := x)] at h1
    rw [hus.left.ev (o := p)] at h2
    simp only [hI]
    refine ⟨v, h1, ?_⟩
    unfold hstore at h2 ⊢
    by_cases hc : v.cells.length = n
    · rw [if_pos hc] at h2 ⊢
      cases hev : e.ev p with
      | loc l f =>
        rw [hev] at h2
        cases p with
        | c u => cases hev
        | t t =>
          have hm : t ∈ (HI.store n (.t t) x).us := by simp [HI.us, O.us]
          simp only at h2 ⊢
          rw [hlo t hm l f hev] at h2
          obtain ⟨cs, h4, h5⟩ := bind_some h2
          split at h5
          · rename_i hc2
            cases h5
            refine ⟨_, by rw [h4, Option.bind_some, if_pos hc2], ?_, .setL (by rw [hi]; rfl) fun hk => by rw [hi] at hk; cases hk⟩
            rwa [hp.setL t (hmem t hm) l f _ hev] at h3
          · cases h5
      | val u =>
        rw [hev] at h2
        cases u with
        | ptr id i f =>
          simp only at h2 ⊢
          split at h2
          · rename_i sz es hg
            obtain ⟨cs, h4, h5⟩ := bind_some h2
            split at h5
            · rename_i hc2
              cases h5
              refine ⟨_, by rw [h4, Option.bind_some, if_pos hc2], h3, .same fun hk => by rw [hi] at hk; cases hk⟩
            · cases h5
          · cases h2
        | _ => cases h2
      | bad => rw [hev] at h2; cases h2
    · rw [if_neg hc] at h2; cases h2
  | app d sz bytes s x =>
    rw [hi] at hk hd hus
    obtain ⟨a, h1, b, h2, news, h3, r, h4, h5⟩ := hk
    rw [hus.left.v (o := s)] at h1
    rw [hus.right.v (o := x)] at h2
    rw [Env.set_pt] at h5
    refine ⟨a, h1, b, h2, news, h3, r, h4, ?_, ?_⟩
    · rw [Env.set_pt]
      rwa [hp.put d hd _ _ (fun l f hl => by cases hl)] at h5
    · exact .pt hd (fun l f hl => by cases hl) fun hk => by rw [hi] at hk; cases hk
  | call d f xs =>
    rw [hi] at hk hd hus
    obtain ⟨vs, h1, h2⟩ := hk
    rw [hus.vs (l := xs)] at h1
    refine ⟨vs, h1, h2.mono fun r h' h3 => ?_⟩
    have hd : j.d = d := hd
    rw [Env.setO_pt _ _ _ (fun _ _ h => by cases h), ← hd] at h3 ⊢
    exact ⟨by rwa [hp.ptO (fun _ _ h => by cases h)] at h3, .ptO (fun _ _ h => by cases h) fun hk => by rw [hi] at hk; cases hk⟩
  | callv d fs x xs =>
    rw [hi] at hk hd hus
    obtain ⟨vs, h1, f, first, caps, h2, h3, h4⟩ := hk
    rw [hus.right.vs (l := xs)] at h1
    rw [hus.left.v (o := x)] at h2
    refine ⟨vs, h1, f, first, caps, h2, h3, h4.mono fun r h' h3 => ?_⟩
    have hd : j.d = d := hd
    rw [Env.setO_pt _ _ _ (fun _ _ h => by cases h), ← hd] at h3 ⊢
    exact ⟨by rwa [hp.ptO (fun _ _ h => by cases h)] at h3, .ptO (fun _ _ h => by cases h) fun hk => by rw [hi] at hk; cases hk⟩
  | mapupd ag ks m k x =>
    rw [hi] at hk hd hus
    obtain ⟨kk, h1, v, h2, h3, id, es, h4, h5, es', h6, h7⟩ := hk
    rw [hus.left.right.v (o := k)] at h1
    rw [hus.right.v (o := x)] at h2
    rw [hus.left.left.v (o := m)] at h4
    exact ⟨kk, h1, v, h2, h3, id, es, h4, h5, es', h6, h7, .same fun hk => by rw [hi] at hk; cases hk⟩
  | next d it =>
    rw [hi] at hk hd hus
    obtain ⟨id, m, seen, h1, h2, h3⟩ := hk
    rw [hus.v (o := it)] at h1
    refine ⟨id, m, seen, h1, h2, ?_⟩
    have go : ∀ {v : HV} {h' : HH}, K ((π e).set d (.val v)) h' → K (π (e.set d (.val v))) h' ∧ Left j e h (e.set d (.val v)) h' := by
      intro v h' hk
      rw [Env.set_pt] at hk ⊢
      exact ⟨by rwa [hp.put d hd _ _ (fun l f hl => by cases hl)] at hk, .pt hd (fun l f hl => by cases hl) fun hk => by rw [hi] at hk; cases hk⟩
    cases m with
    | none => exact go h3
    | some m =>
      obtain ⟨es, h4, h5, h6⟩ := h3
      exact ⟨es, h4, fun hx => go (h5 hx), fun i k v hi hs => go (h6 i k v hi hs)⟩

theorem hG_past {π : Env → Env} {j : HG} (hd : j.d = j.i.dst) (hp : Past π j e) {K : Env → HH → Prop} (hk : hG (TS P) j K (π e) h) : hG (TS P) j (fun e' h' => K (π e') h' ∧ Left j e h e' h') e h := by
  unfold hG at hk ⊢
  cases hg : j.g with
  | none =>
    rw [hg] at hk
    exact hI_past hd hp hk
  | some gw =>
    obtain ⟨g, want⟩ := gw
    rw [hg] at hk
    obtain ⟨b, h1, h2, h3⟩ := hk
    have hgm : g ∈ j.us := by simp [HG.us, hg]
    refine ⟨b, by rw [← hp.us g hgm]; exact h1, fun hb => hI_past hd hp (h2 hb), fun hb => ?_⟩
    have h4 := h3 hb
    rw [Env.setO_pt _ _ _ (fun _ _ h => by cases h)] at h4 ⊢
    exact ⟨by rwa [hp.ptO (fun _ _ h => by cases h)] at h4, .ptO (fun _ _ h => by cases h) fun _ _ => .refl h⟩

/-- K may be told what the instruction leaves -/
theorem hG_left {j : HG} (hd : j.d = j.i.dst) {K : Env → HH → Prop} (hk : hG (TS P) j K e h) : hG (TS P) j (fun e' h' => K e' h' ∧ Left j e h e' h') e h := hG_past hd (.id j e) hk
end Go.HL
