/- Cuts of slices and strings, look-ups in maps, structs out of parts, function values; all pure instructions together. Conditions: none. -/
import Derived.Test.YtkopmkojmhlgcaaDoorH5
namespace Go.HL
variable {φ : Phi} {e : Env} {H : HH} {n B : Nat} {a : Act} {w : World} {P : Program}

theorem cutStr_sound {t : TypeId} {s : List UInt8} {x : Value} {lo hi : Option Int} {lo' hi' : Option Value} {v : HV} (hx : VR φ (.str s) x) (ht : P.underlying t = some .string) (hl : BR lo lo') (hh : BR hi hi')
    (hv : sliceV (.str s) lo hi none = some v) : ∃ u, (Instr.sliceAt t x lo' hi' none).run P w = .ok u w ∧ VR φ v u := by
  simp only [sliceV] at hv
  split at hv
  · rename_i hc
    cases hv
    obtain ⟨_, h0, h1, h2⟩ := hc
    rw [str_eq hx]
    have hsz : (ByteArray.mk s.toArray).size = s.length := by simp [ByteArray.size]
    have hb := bounds_ok (P := P) (w := w) (isS := false) (ln := s.length) (cp := s.length) (mx := none) (mx' := none) hl hh trivial h0 h1 (by simpa using h2) (by simp) (by simp)
    refine ⟨.string ((ByteArray.mk s.toArray).extract (lo.getD 0).toNat (hi.getD s.length).toNat), ?_, ?_⟩
    · simp [Instr.sliceAt, run_underlying ht, Instr.slice, hsz, hb]
    · have : (ByteArray.mk s.toArray).extract (lo.getD 0).toNat (hi.getD s.length).toNat = ⟨((s.take (hi.getD s.length).toNat).drop (lo.getD 0).toNat).toArray⟩ := by
        apply ByteArray.ext
        simp [List.drop_take]
      rw [this]
      exact str_mk _
  · cases hv

theorem cutNil_sound {t et : TypeId} {sz : Nat} {x : Value} {lo hi mx : Option Int} {lo' hi' mx' : Option Value} {v : HV} (hx : VR φ .nils x) (ht : P.underlying t = some (.slice et)) (hz : sizeT P et = some sz) (hl : BR lo lo') (hh : BR hi hi') (hm : BR mx mx')
    (hmh : mx ≠ none → hi ≠ none) (hv : sliceV .nils lo hi mx = some v) : ∃ u, (Instr.sliceAt t x lo' hi' mx').run P w = .ok u w ∧ VR φ v u := by
  simp only [sliceV] at hv
  split at hv
  · rename_i hc
    cases hv; cases hx
    obtain ⟨h0, h1, h2⟩ := hc
    have hb := bounds_ok (P := P) (w := w) (isS := true) (ln := 0) (cp := 0) hl hh hm (by omega) (by simp only [Int.natCast_zero]; omega) (by simp only [Int.natCast_zero]; omega) (by simp only [Int.natCast_zero]; omega) hmh
    simp only [Int.natCast_zero] at hb
    refine ⟨.slice none 0 0, ?_, .nils⟩
    simp [Instr.sliceAt, run_underlying ht, Instr.slice, hb, sizeT_run hz, h0, h1, h2]
  · cases hv

theorem cut_sound (hs : Sim φ w H) {t et : TypeId} {id off len room : Nat} {ex : Bool} {sz : Nat} {x : Value} {lo hi mx : Option Int} {lo' hi' mx' : Option Value} {v : HV} (hx : VR φ (.slice id off len room ex) x) (ht : P.underlying t = some (.slice et)) (hz : sizeT P et = some sz)
    (hl : BR lo lo') (hh : BR hi hi') (hm : BR mx mx') (hob : ∃ ro es, H.get id = some (.arr ro sz es)) (hv : sliceV (.slice id off len room ex) lo hi mx = some v) :
    ∃ u, (Instr.sliceAt t x lo' hi' mx').run P w = .ok u w ∧ VR φ v u := by
  cases hx with
  | slice _ _ _ _ _ p o cap hp ho hroom hex hlen htot =>
    obtain ⟨ro, es, hg⟩ := hob
    have hpsz : p.sz = sz := (hs.ob id p _ hp hg).1
    simp only [sliceV] at hv
    cases mx with
    | none =>
      simp only at hv
      split at hv
      · rename_i hc
        cases hv
        obtain ⟨h0, h1, h2⟩ := hc
        cases mx' with
        | some _ => exact hm.elim
        | none =>
          have hb := bounds_ok (P := P) (w := w) (isS := true) (ln := len) (cp := cap) (mx := none) (mx' := none) hl hh trivial h0 h1 (by simp only [Option.getD_none]; omega) (by simp) (by simp)
          simp only [Option.getD_none, Int.toNat_natCast] at hb
          generalize hL : (lo.getD 0).toNat = L at *
          generalize hU : (hi.getD (len : Int)).toNat = U at *
          have hLU : L ≤ U := by omega
          have hUr : U ≤ room := by omega
          by_cases hcl : cap = L
          · subst hcl
            refine ⟨.slice (some ⟨p.blk, o, none⟩) (U - cap) (cap - cap), ?_, ?_⟩
            · simp [Instr.sliceAt, run_underlying ht, Instr.slice, hb, sizeT_run hz]
            · exact .slice id _ _ _ _ p o _ hp (.inr (by omega)) (by omega) (fun h => by have := hex h; omega) (by omega) (.inr (by omega))
          · have hc0 : cap ≠ 0 := by omega
            have hoo := ho.resolve_right hc0
            refine ⟨.slice (some ⟨p.blk, o + L * sz, none⟩) (U - L) (cap - L), ?_, ?_⟩
            · simp [Instr.sliceAt, run_underlying ht, Instr.slice, hb, sizeT_run hz, hcl, add_mk]
            · exact .slice id _ _ _ _ p _ _ hp (.inl (by rw [hoo, hpsz, Nat.add_mul, Nat.add_assoc])) (by omega) (fun h => by have := hex h; omega) (by omega) (by have := htot.resolve_right hc0; exact .inl (by omega))
      · cases hv
    | some m =>
      simp only at hv
      split at hv
      · rename_i hc
        cases hv
        obtain ⟨h0, h1, h2, h3, h4⟩ := hc
        have hb := bounds_ok (P := P) (w := w) (isS := true) (ln := len) (cp := cap) hl hh hm h0 h1 (by simpa using h2) (by simp only [Option.getD_some]; omega) (fun _ => h4)
        simp only [Option.getD_some] at hb
        generalize hL : (lo.getD 0).toNat = L at *
        generalize hU : (hi.getD (len : Int)).toNat = U at *
        generalize hM : m.toNat = M at *
        have hLU : L ≤ U := by omega
        have hUM : U ≤ M := by omega
        have hMr : M ≤ room := by omega
        by_cases hcl : M = L
        · subst hcl
          refine ⟨.slice (some ⟨p.blk, o, none⟩) (U - M) (M - M), ?_, ?_⟩
          · simp [Instr.sliceAt, run_underlying ht, Instr.slice, hb, sizeT_run hz]
          · exact .slice id _ _ _ _ p o _ hp (.inr (by omega)) (by omega) (fun _ => rfl) (by omega) (.inr (by omega))
        · have hc0 : cap ≠ 0 := by omega
          have hoo := ho.resolve_right hc0
          refine ⟨.slice (some ⟨p.blk, o + L * sz, none⟩) (U - L) (M - L), ?_, ?_⟩
          · simp [Instr.sliceAt, run_underlying ht, Instr.slice, hb, sizeT_run hz, hcl, add_mk]
          · exact .slice id _ _ _ _ p _ _ hp (.inl (by rw [hoo, hpsz, Nat.add_mul, Nat.add_assoc])) (by omega) (fun _ => rfl) (by omega) (by have := htot.resolve_right hc0; exact .inl (by omega))
      · cases hv
end Go.HL
