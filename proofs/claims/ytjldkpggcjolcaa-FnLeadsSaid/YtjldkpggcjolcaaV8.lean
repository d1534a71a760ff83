/- The machine does what the pure operations say: structs, and the whole. Conditions: the table of types fits the program. -/
import Derived.Test.YtjldkpggcjolcaaV7
namespace Go.Proofs.YtjldkpggcjolcaaV
set_option linter.unusedVariables false
set_option linter.unusedSimpArgs false

section
variable {P : Program} {T : Tbl} {C : Cx} {roots : List Root} {gh : Nat → Gh} {Fk : Nat → List Nat} {X : List Nat} {w : World} {env : List (Nat × VV)} {a : Act}

theorem struct_desc {t : Nat} {i : TI} (hT : TyOk P t i) {fs : List (Nat × Nat × Nat)} (hk : i.k = .struct fs) :
    ∃ fields, P.underlying t = some (.struct fields) ∧ Fits P fields fs ∧ (∀ f ∈ fields.toList, 0 < P.cellsOf f.type ∧ f.name ≠ "_" ∧ ∃ i, P.info? f.type = some i) := by
  obtain ⟨d, hd, hm⟩ := hT.desc
  rw [hk] at hm
  simp only at hm
  obtain ⟨fields, rfl, h1, h2, _⟩ := hm
  exact ⟨fields, hd, h1, h2⟩

theorem fits_get {fields : Array Field} {fs : List (Nat × Nat × Nat)} (h : Fits P fields fs) {j o sz ft : Nat} (hj : fs[j]? = some (o, sz, ft)) :
    ∃ f, fields[j]? = some f ∧ f ∈ fields.toList ∧ f.offset = o ∧ P.cellsOf f.type = sz ∧ f.type = ft := by
  unfold Fits at h
  subst h
  simp only [List.getElem?_map, Option.map_eq_some_iff, Prod.mk.injEq] at hj
  obtain ⟨f, hf, rfl, rfl, rfl⟩ := hj
  exact ⟨f, by simpa using hf, List.mem_of_getElem? hf, rfl, rfl, rfl⟩

theorem vfieldAddr_ok {t : Nat} {i : TI} (hT : TyOk P t i) {fs : List (Nat × Nat × Nat)} (hk : i.k = .struct fs) {c r : VV} {f : Nat} {v : Value} (hr : HX C roots gh Fk X w)
    (h : vfieldAddr fs c f = some r) (hv : VRs (okF w roots Fk X) w roots gh [c] [v]) (hp : ptrOk roots c = true) :
    ∃ u, (∀ w', (Instr.fieldAt t v f).run P w' = .ok u w') ∧ VRs (okF w roots Fk X) w roots gh [r] [u] := by
  obtain ⟨fields, hd, hfit, hf⟩ := struct_desc hT hk
  unfold vfieldAddr at h
  split at h
  · rename_i o sz ft k g i' off hj
    cases h
    obtain ⟨fd, hfd, hmem, rfl, rfl, rfl⟩ := fits_get hfit hj
    obtain ⟨hpos, _, inf, hinf⟩ := hf fd hmem
    have hcz : ¬ inf.size = 0 := by simp [Program.cellsOf, hinf] at hpos; omega
    have hrun : ∀ b o' w', (Instr.fieldAt t (.pointer (some ⟨b, o', none⟩)) f).run P w' = .ok (.pointer (some ⟨b, o' + fd.offset, none⟩)) w' := by
      intro b o' w'
      simp [Instr.fieldAt, run_underlying hd, hfd, Instr.sureAddr, fieldPlace, sizeOf, typeInfo, hinf, hcz, Addr.add_lit]
    cases hv with
    | sc hs _ => cases hs
    | ptr k g i' off v ho hg hb ha t' =>
      simp only [ptrOk] at hp
      split at hp
      · rename_i cells hR
        rw [hb cells hR]
        exact ⟨_, hrun _ _, .ptr k g i' _ _ rfl hg (fun _ _ => rfl) (fun own sz rows h' => by rw [hR] at h'; cases h') .nil⟩
      · rename_i g' own sz rows hR
        have hm : g = g' := by simpa using hp
        subst hm
        rw [ha own sz rows hR]
        exact ⟨_, hrun _ _, .ptr k g i' _ _ rfl hg (fun cells h' => by rw [hR] at h'; cases h') (fun _ _ _ _ => by rw [Nat.add_assoc]) .nil⟩
      · cases hp
  · rename_i o sz ft tag row off hj
    cases h
    obtain ⟨fd, hfd, hmem, rfl, rfl, rfl⟩ := fits_get hfit hj
    obtain ⟨hpos, _, inf, hinf⟩ := hf fd hmem
    have hcz : ¬ inf.size = 0 := by simp [Program.cellsOf, hinf] at hpos; omega
    cases hv with
    | sc hs _ => cases hs
    | rp tag row off v ho hg hh t' =>
      obtain ⟨b, o, cells, rfl, hok, hro, hcl⟩ := hh hp
      refine ⟨.pointer (some ⟨b, o + off + fd.offset, none⟩), fun w' => ?_, .rp tag row _ _ rfl hg (fun _ => ⟨b, o, cells, by rw [Nat.add_assoc], hok, hro, hcl⟩) .nil⟩
      simp [Instr.fieldAt, run_underlying hd, hfd, Instr.sureAddr, fieldPlace, sizeOf, typeInfo, hinf, hcz, Addr.add_lit]
  · cases h

theorem VRs.one_of_agg {ok : Option (Nat × Nat) → Nat → Prop} {cs : List VV} {us : Array Value} (h : VRs ok w roots gh [.agg cs] [.agg us]) : VRs ok w roots gh cs us.toList ∧ ∀ u ∈ us.toList, u.oneCell' = true := by
  cases h with
  | sc h _ => cases h
  | agg ds us h h1 t => simpa using ⟨h, h1⟩

theorem vfield_ok (hT : TOk P T) {t : Nat} {i : TI} (hTt : TyOk P t i) {fs : List (Nat × Nat × Nat)} (hk : i.k = .struct fs) {c r : VV} {f : Nat} {v : Value}
    (h : vfield T fs c f = some r) (hv : VRs (okF w roots Fk X) w roots gh [c] [v]) :
    ∃ u, (∀ w', (Instr.field t v f).run P w' = .ok u w') ∧ VRs (okF w roots Fk X) w roots gh [r] [u] := by
  obtain ⟨fields, hd, hfit, hf⟩ := struct_desc hTt hk
  unfold vfield at h
  split at h
  · rename_i o sz ft cs hj
    obtain ⟨fd, hfd, hmem, rfl, rfl, rfl⟩ := fits_get hfit hj
    obtain ⟨us, rfl, hus⟩ := hv.aggs
    have hone : ∀ u ∈ us, u.oneCell' = true := by simpa using hv.one_of_agg.2
    split at h
    · rename_i i2 hi2
      have hT2 := hT _ _ hi2
      split at h
      · rename_i hagg
        split at h
        · rename_i hle
          cases h
          refine ⟨.agg ((us.drop fd.offset).take i2.size).toArray, fun w' => ?_, .agg _ _ ((hus.split _).2.split _).1 (fun u hu => hone u (List.mem_of_mem_drop (List.mem_of_mem_take hu))) .nil⟩
          have hl := hus.length
          simp [Instr.field, run_underlying hd, hfd, asAgg, part, tk_agg hT2, hagg, ty_size hT2, List.extract_eq_take_drop]
        · cases h
      · rename_i hagg
        obtain ⟨u, hu, hcu⟩ := hus.get _ _ h
        exact ⟨u, fun w' => by simp [Instr.field, run_underlying hd, hfd, asAgg, part, tk_agg hT2, hagg, hu], hcu⟩
    · cases h
  · cases h

theorem vindex_ok (hT : TOk P T) {t : Nat} {c i r : VV} {v u : Value} (h : vindex T t c i = some r) (hv : VRs (okF w roots Fk X) w roots gh [c] [v]) (hi : VRs (okF w roots Fk X) w roots gh [i] [u]) :
    ∃ x, (∀ w', (Instr.index t v u).run P w' = .ok x w') ∧ VRs (okF w roots Fk X) w roots gh [r] [x] := by
  unfold vindex at h
  split at h
  · rename_i it s k n hit
    obtain rfl := hv.str
    obtain rfl := hi.int
    obtain ⟨d, hd, hm⟩ := (hT _ _ hit).desc
    split at h
    · rename_i hk
      rw [hk] at hm
      simp only at hm
      subst hm
      split at h
      · rename_i h0
        simp only [Option.map_eq_some_iff] at h
        obtain ⟨b, hb, rfl⟩ := h
        refine ⟨.int .u8 b.toNat, fun w' => ?_, .sc (.int _ _) .nil⟩
        have hlt := (List.getElem?_eq_some_iff.1 hb).1
        have hget : (⟨s.toArray⟩ : ByteArray)[n.toNat]? = some b := by
          have hsz : (⟨s.toArray⟩ : ByteArray).size = s.length := by simp [ByteArray.size]
          rw [getElem?_pos _ _ (by rw [hsz]; exact hlt)]
          congr 1
          have := (List.getElem?_eq_some_iff.1 hb).2
          simpa [ByteArray.getElem_eq_getElem_data] using this
        simp [Instr.index, asIntOf, run_underlying hd, h0, hget]
      · cases h
    · cases h
  · cases h

theorem places_run {fields : Array Field} (hf : ∀ f ∈ fields.toList, 0 < P.cellsOf f.type ∧ f.name ≠ "_" ∧ ∃ i, P.info? f.type = some i) (w' : World) :
    (fields.mapM fun f => (do pure (f.offset, ← sizeOf f.type) : Sem (Nat × Nat))).run P w' = .ok (fields.map fun f => (f.offset, P.cellsOf f.type)) w' := by
  have hone : ∀ f : Field, (∃ i, P.info? f.type = some i) → (do pure (f.offset, ← sizeOf f.type) : Sem (Nat × Nat)).run P w' = .ok (f.offset, P.cellsOf f.type) w' := by
    rintro f ⟨i, hi⟩
    simp [sizeOf, typeInfo, hi, Program.cellsOf]
  have h : ∀ l : List Field, (∀ f ∈ l, ∃ i, P.info? f.type = some i) → (l.mapM fun f => (do pure (f.offset, ← sizeOf f.type) : Sem (Nat × Nat))).run P w' = .ok (l.map fun f => (f.offset, P.cellsOf f.type)) w' := by
    intro l
    induction l with
    | nil => intro _; rfl
    | cons f l ih =>
      intro hl
      simp only [List.mapM_cons]
      rw [Sem.run_bind, hone f (hl f (by simp)), Result.andThen_ok, Sem.run_bind, ih (fun g hg => hl g (by simp [hg])), Result.andThen_ok]
      rfl
  have h2 := h fields.toList (fun f hf' => (hf f hf').2.2)
  obtain ⟨l⟩ := fields
  rw [List.mapM_toArray, Sem.run_map, h2]
  simp

theorem fillV_ok {fs : List (Nat × Nat × Nat)} {fields : Array Field} (hfit : Fits P fields fs) : ∀ (ps : List (Nat × VV)) (qs : List (Nat × Value)) (cells : List VV) (us : Array Value) (r : List VV),
    fillV fs cells ps = some r → VRs (okF w roots Fk X) w roots gh cells us.toList → (∀ u ∈ us.toList, u.oneCell' = true) → ps.map (·.1) = qs.map (·.1) → VRs (okF w roots Fk X) w roots gh (ps.map (·.2)) (qs.map (·.2)) →
    ∃ us', Instr.fill (fun i => (fields.map fun f => (f.offset, P.cellsOf f.type))[i]?) us qs = some us' ∧ VRs (okF w roots Fk X) w roots gh r us'.toList ∧ (∀ u ∈ us'.toList, u.oneCell' = true)
  | [], qs, cells, us, r, h, hv, h1, hm, _ => by
    have : qs = [] := by simpa using hm.symm
    subst this
    simp [fillV] at h; subst h
    exact ⟨us, rfl, hv, h1⟩
  | (j, c) :: ps, [], cells, us, r, h, hv, h1, hm, _ => by simp at hm
  | (j, c) :: ps, (j', v) :: qs, cells, us, r, h, hv, h1, hm, hp => by
    simp only [List.map_cons, List.cons.injEq] at hm
    obtain ⟨rfl, hm⟩ := hm
    simp only [List.map_cons] at hp
    simp only [fillV] at h
    split at h
    · rename_i off sz ft cs hj hcs
      split at h
      · rename_i hc
        obtain ⟨rfl, hle⟩ := hc
        obtain ⟨fd, hfd, hmem, rfl, hsz, rfl⟩ := fits_get hfit hj
        obtain ⟨vs, hvc, hvs, hone⟩ := cellsV_ok hcs hp.hd
        have hlv := hvs.length
        have hlu := hv.length
        have hl := fill_list fd.offset vs 0 us (by simp at hlu ⊢; omega)
        simp only [Nat.add_zero] at hl
        obtain ⟨us', hf', hr', h1'⟩ := fillV_ok hfit ps qs _ ((vs.zipIdx 0).foldl (fun cs (p : Value × Nat) => cs.setIfInBounds (fd.offset + p.2) p.1) us) r h (by
          rw [hl]
          have hd1 := (hv.split fd.offset).1
          have hd2 := (hv.split (fd.offset + cs.length)).2
          rw [← hlv] at hd2 ⊢
          exact (hd1.app hvs).app hd2) (by
          rw [hl]
          intro u hu
          simp only [List.mem_append] at hu
          rcases hu with (hu | hu) | hu
          · exact h1 u (List.mem_of_mem_take hu)
          · exact hone u hu
          · exact h1 u (List.mem_of_mem_drop hu)) hm (hp.split 1).2
        refine ⟨us', ?_, hr', h1'⟩
        rw [Instr.fill]
        have hpl : (fields.map fun f => (f.offset, P.cellsOf f.type))[j]? = some (fd.offset, cs.length) := by
          rw [Array.getElem?_map, hfd]; simp [hsz]
        simp only [hpl, hvc]
        rw [if_neg (by simp at hlu ⊢; omega)]
        have : vs.toArray.zipIdx = (vs.zipIdx 0).toArray := by simp
        rw [this, List.foldl_toArray]
        exact hf'
      · cases h
    · cases h
end
end Go.Proofs.YtjldkpggcjolcaaV
