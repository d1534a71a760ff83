/- The machine does what the pure operations say: every one. Conditions: the table of types fits the program. -/
import Derived.Test.YtjldkpggcjolcaaV8
namespace Go.Proofs.YtjldkpggcjolcaaV
set_option linter.unusedVariables false
set_option linter.unusedSimpArgs false

section
variable {P : Program} {T : Tbl} {C : Cx} {roots : List Root} {gh : Nat → Gh} {Fk : Nat → List Nat} {X : List Nat} {w : World} {env : List (Nat × VV)} {a : Act}

theorem ptrOk_some {c : VV} {v : Value} (h : ptrOk roots c = true) (hv : VRs (okF w roots Fk X) w roots gh [c] [v]) : ∃ x, v = .pointer (some x) := by
  cases hv with
  | undef v t => cases h
  | sc h' t => cases h' <;> cases h
  | ptr k g i off v ho hk hb ha t =>
    simp only [ptrOk] at h
    split at h
    · rename_i cells hR; exact ⟨_, hb _ hR⟩
    · rename_i g' own sz rows hR
      have : g = g' := by simpa using h
      subst this
      exact ⟨_, ha _ _ _ hR⟩
    · cases h
  | rp tag row off v ho hk hh t =>
    obtain ⟨b, o, cells, rfl, _⟩ := hh h
    exact ⟨_, rfl⟩
  | _ => cases h

theorem VRs.fns {ok : Option (Nat × Nat) → Nat → Prop} {f : Nat} {cs : List VV} {v : Value} (h : VRs ok w roots gh [.fn f cs] [v]) : ∃ us : List Value, v = .func (.func f) #[] us.toArray := by
  cases h with
  | sc h _ => cases h; exact ⟨[], rfl⟩
  | fn f ds us h t => exact ⟨us, rfl⟩

theorem vlen_ok (hr : HX C roots gh Fk X w) {c r : VV} {v : Value} (h : vlen roots c = some r) (hv : VRs (okF w roots Fk X) w roots gh [c] [v]) :
    (∃ s, c = .str s ∧ v = .string ⟨s.toArray⟩ ∧ r = .int .i64 s.length) ∨ ∃ a n cap, v = .slice a n cap ∧ r = .int .i64 n := by
  unfold vlen at h
  split at h
  · rename_i s
    cases h
    exact .inl ⟨s, rfl, hv.str, rfl⟩
  · rename_i hns
    simp only [Option.map_eq_some_iff] at h
    obtain ⟨rows, hrows, rfl⟩ := h
    obtain ⟨sz, hro, _⟩ := rowsOf_ok hr hrows hv
    obtain ⟨a, cap, rfl, _⟩ := hro.slice
    exact .inr ⟨a, _, cap, rfl, rfl⟩

theorem vpure_ok (hT : TOk P T) (hr : HX C roots gh Fk X w) (he : EnvR (okF w roots Fk X) w roots gh env a.tmps) {o : Oper} {c : VV} (h : vpure T env roots o = some c) (hc : vcond env o) :
    ∃ u, (∀ w', Same w w' → (execOp a.eval o).run P w' = .ok (.value u) w') ∧ VRs (okF w roots Fk X) w roots gh [c] [u] := by
  unfold vpure at h
  unfold vcond at hc
  split at h
  · rename_i x ho
    cases h
    exact ⟨_, fun w' _ => by simp [execOp, ho], he.ev x⟩
  · rename_i x ho
    cases h
    exact ⟨_, fun w' _ => by simp [execOp, ho], he.ev x⟩
  · rename_i x y z ho
    split at h
    · rename_i t ht
      cases h
      have hx := he.ev x
      rw [ht] at hx
      have := hx.bool
      cases t
      · exact ⟨a.eval z, fun w' _ => by simp [execOp, ho, this, asBool], by simpa using he.ev z⟩
      · exact ⟨a.eval y, fun w' _ => by simp [execOp, ho, this, asBool], by simpa using he.ev y⟩
    · cases h
  · rename_i t x ho
    split at h
    · rename_i i hi
      obtain ⟨u, hu, hcu⟩ := vload_ok (hT _ _ hi) hr h (he.ev x)
      exact ⟨u, fun w' hw => by simp [execOp, ho, hu w' hw], hcu⟩
    · cases h
  · rename_i x ho
    split at h
    · rename_i f caps hx
      cases h
      have hv := he.ev x
      rw [hx] at hv
      obtain ⟨us, hus⟩ := hv.fns
      exact ⟨a.eval x, fun w' _ => by simp [execOp, ho, hus], by rw [← hx]; exact he.ev x⟩
    · split at h
      · rename_i hp
        cases h
        obtain ⟨y, hy⟩ := ptrOk_some hp (he.ev x)
        exact ⟨a.eval x, fun w' _ => by simp [execOp, ho, hy], he.ev x⟩
      · cases h
  · rename_i op t x y z ho
    rw [ho] at hc
    obtain ⟨u, hu, hcu⟩ := vbin_ok (ox := x) (oy := y) hT h hc (he.ev x) (he.ev y)
    refine ⟨u, fun w' _ => ?_, hcu⟩
    have := hu w'
    simp only [execOp, ho]
    rw [Sem.run_bind, this]
    rfl
  · rename_i op t x ho
    obtain ⟨u, hu, hcu⟩ := vun_ok (P := P) h (he.ev x)
    exact ⟨u, fun w' _ => by simp [execOp, ho, hu w'], hcu⟩
  · rename_i s d x ho
    obtain ⟨u, hu, hcu⟩ := vconv_ok hT hr h (he.ev x)
    exact ⟨u, fun w' hw => by simp [execOp, ho, hu w' hw], hcu⟩
  · rename_i fn first caps ho
    split at h
    · rename_i f
      split at h
      · rename_i h0
        cases h
        have hf : first = #[] := Array.eq_empty_of_size_eq_zero h0
        subst hf
        refine ⟨.func (.func f) #[] (caps.map a.eval), fun w' _ => by simp [execOp, ho, Instr.makeFunc], ?_⟩
        have e : caps.map a.eval = (caps.toList.map a.eval).toArray := by apply Array.ext'; simp
        rw [e]
        exact VRs.fn (ok := okF w roots Fk X) (w := w) (gh := gh) f _ _ (evs he caps.toList) .nil
      · cases h
    · cases h
  · rename_i t x lo hi mx ho
    split at h
    · rename_i it hit
      split at h
      · rename_i hk
        split at h
        · rename_i hs
          obtain ⟨u, hu, hcu⟩ := vslice_ok hr (hT _ _ hit) (.inl hk) h (he.ev x) (optR he lo) (optR he hi) (by simp [hs, hk])
          exact ⟨u, fun w' _ => by simp [execOp, ho, hu w'], hcu⟩
        · cases h
      · rename_i e hk
        split at h
        · rename_i ie hie
          split at h
          · cases h
          · rename_i hs
            obtain ⟨u, hu, hcu⟩ := vslice_ok hr (hT _ _ hit) (.inr ⟨e, ie, hk, hT _ _ hie, rfl⟩) h (he.ev x) (optR he lo) (optR he hi) (by simp [hs, hk])
            exact ⟨u, fun w' _ => by simp [execOp, ho, hu w'], hcu⟩
        · cases h
      · cases h
    · cases h
  · rename_i t x f ho
    split at h
    · rename_i i hi
      split at h
      · rename_i fs hk
        split at h
        · rename_i hp
          obtain ⟨u, hu, hcu⟩ := vfieldAddr_ok (hT _ _ hi) hk hr h (he.ev x) hp
          exact ⟨u, fun w' _ => by simp [execOp, ho, hu w'], hcu⟩
        · cases h
      · cases h
    · cases h
  · rename_i t x f ho
    split at h
    · rename_i i hi
      split at h
      · rename_i fs hk
        obtain ⟨u, hu, hcu⟩ := vfield_ok hT (hT _ _ hi) hk h (he.ev x)
        exact ⟨u, fun w' _ => by simp [execOp, ho, hu w'], hcu⟩
      · cases h
    · cases h
  · rename_i t x i ho
    split at h
    · rename_i it hit
      split at h
      · rename_i e hk
        split at h
        · rename_i ie k n hie hi
          have hiv := he.ev i
          rw [hi] at hiv
          obtain ⟨d, hd, hm⟩ := (hT _ _ hit).desc
          rw [hk] at hm
          simp only at hm
          subst hm
          obtain ⟨u, hu, hcu⟩ := vindexAddr_ok (k := k) hr hd (hT _ _ hie) rfl h (he.ev x)
          exact ⟨u, fun w' _ => by simp [execOp, ho, hiv.int, hu w'], hcu⟩
        · cases h
      · cases h
    · cases h
  · rename_i t x i ho
    obtain ⟨u, hu, hcu⟩ := vindex_ok hT h (he.ev x) (he.ev i)
    exact ⟨u, fun w' _ => by simp [execOp, ho, hu w'], hcu⟩
  · rename_i x i ho
    split at h
    · rename_i vs hvs
      have hv := he.ev x
      rw [hvs] at hv
      obtain ⟨us, hus, hu⟩ := hv.tups
      obtain ⟨u, hui, hcu⟩ := hu.get _ _ h
      exact ⟨u, fun w' _ => by simp [execOp, ho, hus, Instr.extract, hui], hcu⟩
    · cases h
  · rename_i t parts ho
    split at h
    · rename_i i hi
      split at h
      · rename_i fs hk
        simp only [Option.map_eq_some_iff] at h
        obtain ⟨cs, hcs, rfl⟩ := h
        obtain ⟨fields, hd, hfit, hf⟩ := struct_desc (hT _ _ hi) hk
        obtain ⟨inf, z, hinf, hsz, hby, hz, hzr, hagg, _, _, _⟩ := (hT _ _ hi).info
        obtain ⟨zs, rfl⟩ := hagg (by rw [hk]; rfl)
        have hz0 : VRs (okF w roots Fk X) w roots gh i.zero zs.toList := hzr.vrs
        have hz1 : ∀ u ∈ zs.toList, u.oneCell' = true := hzr.one
        obtain ⟨us', hf', hr', h1'⟩ := fillV_ok hfit (parts.toList.map fun p => (p.1, ev env p.2)) (parts.toList.map fun p => (p.1, a.eval p.2)) i.zero zs cs hcs hz0 hz1
          (by simp [Function.comp_def]) (by
            have := evs he (parts.toList.map (·.2))
            simpa [Function.comp_def] using this)
        refine ⟨.agg us', fun w' _ => ?_, ?_⟩
        · have hp := places_run (P := P) hf w'
          simp only [execOp, ho, Instr.build, zeroValue, typeInfo, Sem.run_bind, run_program, Result.andThen_ok, hinf, Sem.run_pure, hz, run_underlying hd, hp, Value.cells, Array.toList_map]
          rw [hf']
          rfl
        · have := VRs.agg (ok := okF w roots Fk X) (w := w) (roots := roots) (gh := gh) _ _ hr' h1' .nil
          simpa using this
      · cases h
    · cases h
  · rename_i cl ho
    split at h
    · rename_i hcal
      split at h
      · rename_i x t hargs hty
        have ha : cl.args = #[x] := by have := congrArg List.toArray hargs; simpa using this
        have hb : cl.argTypes = #[t] := by have := congrArg List.toArray hty; simpa using this
        split at h
        · rename_i it hit
          obtain ⟨d, hd, hm⟩ := (hT _ _ hit).desc
          split at h
          · rename_i hk
            rw [hk] at hm
            simp only at hm
            subst hm
            split at h
            · rename_i hs
              rcases vlen_ok hr h (he.ev x) with ⟨s, hsx, hv, rfl⟩ | ⟨a', n, cap, hv, rfl⟩
              · refine ⟨_, fun w' _ => ?_, .sc (.int _ _) .nil⟩
                have hsz : (⟨s.toArray⟩ : ByteArray).size = s.length := by simp [ByteArray.size]
                simp [execOp, ho, resolve, hcal, ha, hb, invoke, builtin, Builtin.len_, run_underlying hd, hv, hsz, goInt]
              · obtain ⟨s, hs'⟩ := isStr_spec hs
                have := he.ev x
                rw [hs'] at this
                rw [this.str] at hv
                cases hv
            · cases h
          · rename_i e hk
            rw [hk] at hm
            simp only at hm
            subst hm
            split at h
            · cases h
            · rename_i hs
              rcases vlen_ok hr h (he.ev x) with ⟨s, hsx, hv, rfl⟩ | ⟨a', n, cap, hv, rfl⟩
              · rw [hsx] at hs; exact absurd rfl hs
              · refine ⟨_, fun w' _ => ?_, .sc (.int _ _) .nil⟩
                simp [execOp, ho, resolve, hcal, ha, hb, invoke, builtin, Builtin.len_, run_underlying hd, hv, goInt]
          · cases h
        · cases h
      · cases h
    · rename_i hcal
      split at h
      · rename_i x r hargs
        obtain ⟨u, hu, hcu⟩ := vmms_min (P := P) h (he.ev x) (evs he r)
        refine ⟨u, fun w' _ => ?_, hcu⟩
        have hl : (cl.args.map a.eval).toList = a.eval x :: r.map a.eval := by simp [hargs]
        simp [execOp, ho, resolve, hcal, invoke, builtin, Builtin.min_, hargs, hu w']
      · cases h
    · rename_i hcal
      split at h
      · rename_i x r hargs
        obtain ⟨u, hu, hcu⟩ := vmms_max (P := P) h (he.ev x) (evs he r)
        refine ⟨u, fun w' _ => ?_, hcu⟩
        simp [execOp, ho, resolve, hcal, invoke, builtin, Builtin.max_, hargs, hu w']
      · cases h
    · cases h
  · cases h
end
end Go.Proofs.YtjldkpggcjolcaaV
