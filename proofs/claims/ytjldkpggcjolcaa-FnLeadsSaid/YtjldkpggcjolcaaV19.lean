/- Every operation. Conditions: the table of types fits the program. -/
import Derived.Test.YtjldkpggcjolcaaV18
namespace Go.Proofs.YtjldkpggcjolcaaV
set_option linter.unusedVariables false
set_option linter.unusedSimpArgs false

section
variable {P : Program} {T : Tbl} {C : Cx} {roots roots' : List Root} {gh gh' : Nat → Gh} {Fk Fk' : Nat → List Nat} {X X' : List Nat} {w w' : World} {env : List (Nat × VV)} {a : Act}

theorem mul_bound {n b : Nat} (h : n ≤ 274877906944) (hb : b ≤ 512) : n * b ≤ 140737488355328 := by
  have := Nat.mul_le_mul h hb
  omega

theorem vappend_ok (hT : TOk P T) (hx : HX C roots gh Fk [] w) {t u ty e : Nat} {ie : TI} (hie : T e = some ie) (ht : P.underlying t = some (.slice e)) {d : TypeDesc} (hu : P.underlying u = some d) (hd : ∀ k, d ≠ .int k) {s x : VV} {vs vx : Value}
    {K : VV → List Root → Prop} (h : vappend ie roots s x K) (hs : VRs (okF w roots Fk []) w roots gh [s] [vs]) (hxv : VRs (okF w roots Fk []) w roots gh [x] [vx]) :
    ∃ v w' c roots' gh' Fk', (Builtin.append_ #[t, u] ty #[vs, vx]).run P w = .ok v w' ∧ K c roots' ∧ HX C roots' gh' Fk' [] w' ∧ Ext roots gh Fk [] w roots' gh' Fk' [] w' ∧ VRs (okF w' roots' Fk' []) w' roots' gh' [c] [v] := by
  unfold vappend at h
  split at h
  · rename_i rows2 roots1 own2 side hn
    obtain ⟨hside, hby, h⟩ := h
    obtain ⟨Fk1, X1, news, N⟩ := newsOf_ok (P := P) hx hn hside hxv
    have hslt : SlT P t e ie := ⟨ht, hT _ _ hie⟩
    have hs1 := N.ext.vrs hs
    split at h
    · obtain ⟨hpos, hle, hK⟩ := h
      have hsc := isSc_ok rfl hs
      cases hsc
      cases own2
      · obtain ⟨v, w', gh', Fk', h1, h2, h3, h4⟩ := append_nil_shared (ty := ty) hslt hu hd N.hx N.nw N.reads N.sz hpos (mul_bound hle hby) (by omega)
        exact ⟨v, w', _, _, gh', Fk', h1, hK, h2, N.ext.trans h3, h4⟩
      · obtain ⟨v, w', gh', Fk', h1, h2, h3, h4⟩ := append_nil_own (ty := ty) hslt hu hd N.hx N.nw (N.owns rfl) N.sz hpos (mul_bound hle hby) (by omega)
        exact ⟨v, w', _, _, gh', Fk', h1, hK, h2, N.ext.trans h3, h4⟩
    · rename_i k g n
      split at h
      · rename_i g' own sz rows hk
        obtain ⟨rfl, rfl, hsz, hle, hK⟩ := h
        by_cases ho : own = true ∧ own2 = true
        · obtain ⟨rfl, rfl⟩ := ho
          obtain ⟨v, w', gh', Fk', h1, h2, h3, h4⟩ := append_own (ty := ty) hslt hu hd N.hx hk hsz.symm hs1 N.nw (N.owns rfl) (by rw [hsz]; exact N.sz) (mul_bound hle hby) (by omega)
          exact ⟨v, w', _, _, gh', Fk', h1, hK, h2, N.ext.trans h3, h4⟩
        · have : (own && own2) = false := by cases own <;> cases own2 <;> simp_all
          rw [this] at hK
          obtain ⟨v, w', gh', Fk', h1, h2, h3, h4⟩ := append_shared (ty := ty) hslt hu hd N.hx hk hsz.symm hs1 N.nw N.reads (by rw [hsz]; exact N.sz) (mul_bound hle hby) (by omega)
          exact ⟨v, w', _, _, gh', Fk', h1, hK, h2, N.ext.trans h3, h4⟩
      · exact h.elim
    · exact h.elim
  · exact h.elim

theorem zeros_list (z : Array Value) : ∀ n, ((Array.range (n * z.size)).map fun q => z[q % z.size]!).toList = (List.replicate n z.toList).flatten
  | 0 => by simp
  | n + 1 => by
    have h1 := zeros_list z n
    simp only [Array.toList_map, Array.toList_range] at h1 ⊢
    rw [Nat.add_mul, Nat.one_mul, List.range_add, List.map_append, h1, List.replicate_succ', List.flatten_append]
    congr 1
    simp only [List.map_map, List.flatten_cons, List.flatten_nil, List.append_nil]
    apply List.ext_getElem
    · simp
    · intro q h2 h3
      simp only [List.length_map, List.length_range] at h2
      simp only [List.getElem_map, List.getElem_range, Function.comp_apply, Nat.mul_comm n, Nat.mul_add_mod, Nat.mod_eq_of_lt h2, Array.getElem_toList]
      exact getElem!_pos z q h2

theorem OWs.rep {ts : List VV} {us : List Value} (h : OWs w ts us []) : ∀ n, OWs w (List.replicate n ts).flatten (List.replicate n us).flatten []
  | 0 => .nil
  | n + 1 => by
    simp only [List.replicate_succ, List.flatten_cons]
    exact h.app (OWs.rep h n)

theorem makeSlice_ok (hT : TOk P T) (hx : HX C roots gh Fk [] w) {t e : Nat} {it ie : TI} (hit : T t = some it) (hk : it.k = .slice e) (hie : T e = some ie) {l c : Operand} {n : Int} (hl : a.eval l = .int .i64 n) (hc : a.eval c = .int .i64 n) (h0 : 0 ≤ n) (hn : n ≤ 274877906944)
    (hby : ie.bytes ≤ 512) {K : VV → List Root → Prop} (hK : K (.rs roots.length 0 0 n.toNat) (roots ++ [.arr 0 true ie.size (List.replicate n.toNat ie.zt)])) (o : Oper) (ho : o.op = .makeSlice t l c) : EffOk P C roots gh Fk w ((execOp a.eval o).run P w) K := by
  obtain ⟨d, hd, hm⟩ := (hT _ _ hit).desc
  rw [hk] at hm
  simp only at hm
  subst hm
  obtain ⟨inf, z, hinf, his, hib, hz, hzz, _, _, hzs, hzt⟩ := (hT _ _ hie).info
  have hwr : IntKind.i64.wrap n = n := by simp [IntKind.wrap, IntKind.bits, IntKind.signed]; omega
  have hbn : (inf.bytes : Int) * n ≤ 281474976710656 := by
    have h1 : (inf.bytes : Int) ≤ 512 := by omega
    have h2 := Int.mul_le_mul h1 hn h0 (by omega)
    omega
  have hnb : ¬ (281474976710656 < (inf.bytes : Int) * n) := by omega
  have hlz : ie.zt.length = ie.size := by
    have := (hzt w).length
    rw [Array.length_toList, hzs] at this; exact this.symm
  let cur : Array Value := (Array.range (n.toNat * ie.size)).map fun q => z.cells[q % z.cells.size]!
  have hcl : cur.toList = (List.replicate n.toNat z.cells.toList).flatten := by
    have := zeros_list z.cells n.toNat
    rw [hzs] at this
    simp only [cur, hzs]; exact this
  have hcs : cur.size = n.toNat * ie.size := by simp [cur]
  obtain ⟨gh', Fk', g1, g2, g3⟩ := hx.pushOwn (X' := []) (sz := ie.size) (rows := List.replicate n.toNat ie.zt) (cur := cur) e n.toNat (free_new _) hcs (by simp) (by unfold maxLen; omega) (fun r hr => by rw [List.eq_of_mem_replicate hr]; exact hlz) (F := [])
    (by
      rw [List.length_replicate, ← hcs, ← Array.length_toList, List.take_length, hcl]
      exact (hzt w).rep _) (fun b hb => by simp at hb) (by simp) (new_alloc w _)
  rw [List.length_replicate] at g3
  refine .inl ⟨_, _, _, _, gh', Fk', .inl ?_, hK, g1, g2, g3⟩
  have hneg : ¬ n < 0 := by omega
  have htl : decide ((2 : Int) ^ 48 < (inf.bytes : Int) * n) = false := by simp; omega
  by_cases hz1 : n.toNat * ie.size = 0
  · have hc0 : cur = #[] := by apply Array.eq_empty_of_size_eq_zero; rw [hcs]; exact hz1
    simp only [execOp, ho, hl, hc, Instr.makeSlice, Sem.run_bind, run_underlying hd, Result.andThen_ok, asInt, asIntOf, Sem.run_pure, typeInfo, run_program, hinf, hwr, gt_iff_lt, htl, Bool.false_or, hneg, decide_false, Bool.false_eq_true, Int.lt_irrefl, Bool.or_false, if_false,
      run_askRoom, sizeOf, his, hz1, if_true, newRow, run_newObj]
    have hr0 : ∀ f : Nat → Value, (Array.range 0).map f = #[] := fun f => by simp
    rw [hc0, hr0]
    rfl
  · simp only [execOp, ho, hl, hc, Instr.makeSlice, Sem.run_bind, run_underlying hd, Result.andThen_ok, asInt, asIntOf, Sem.run_pure, typeInfo, run_program, hinf, hwr, gt_iff_lt, htl, Bool.false_or, hneg, decide_false, Bool.false_eq_true, Int.lt_irrefl, Bool.or_false, if_false,
      run_askRoom, sizeOf, his, hz1, newRow, run_newObj, zeroValue, hz]
    rfl

theorem VRs.fnv {ok : Option (Nat × Nat) → Nat → Prop} {f : Nat} {cs : List VV} {v : Value} (h : VRs ok w roots gh [.fn f cs] [v]) : ∃ us : List Value, v = .func (.func f) #[] us.toArray ∧ VRs ok w roots gh cs us := by
  cases h with
  | sc h _ => cases h; exact ⟨[], rfl, .nil⟩
  | fn f ds us h t => exact ⟨us, rfl, h⟩

theorem veff_ok {L : Low} (hG : Gl P L C.w0 C.F0) (hT : TOk P T) (hx : HX C roots gh Fk [] w) (he : EnvR (okF w roots Fk []) w roots gh env a.tmps) {o : Oper} {K : VV → List Root → Prop} (h : veff L P T C env roots o K) : EffOk P C roots gh Fk w ((execOp a.eval o).run P w) K := by
  unfold veff at h
  split at h
  · rename_i t ho
    split at h
    · rename_i i hi; exact alloc_ok hT hx hi h o ho
    · exact h.elim
  · rename_i t x ho
    split at h
    · rename_i cs hcs; exact box_ok hx he hcs h o ho
    · exact h.elim
  · rename_i t n parts ho
    split at h
    · rename_i it hit
      split at h
      · rename_i e hk
        split at h
        · rename_i ie hie
          split at h
          · rename_i cells hl
            obtain ⟨h1, h2, h3, h⟩ := h
            split at h
            · rename_i ts roots' own hs
              exact buildSlice_ok hT hx he hit hk hie hl h1 h2 h3 hs h o ho
            · exact h.elim
          · exact h.elim
        · exact h.elim
      · exact h.elim
    · exact h.elim
  · rename_i t p x ho
    split at h
    · rename_i i hi; exact store_ok hT hx he hi h o ho
    · exact h.elim
  · rename_i s d x ho
    split at h
    · rename_i i j l hi hj hl
      split at h
      · rename_i e hki hkj
        split at h
        · rename_i ie hie
          split at h
          · rename_i hke
            exact conv_ok hT hx he hi hj hl hki hkj hie hke h.1 h.2 o ho
          · exact h.elim
        · exact h.elim
      · exact h.elim
    · exact h.elim
  · rename_i t l c ho
    split at h
    · rename_i it n m hit hl hc
      split at h
      · rename_i e hk
        split at h
        · rename_i ie hie
          obtain ⟨h0, rfl, h1, h2, h3⟩ := h
          have v1 := he.ev l
          have v2 := he.ev c
          rw [hl] at v1
          rw [hc] at v2
          exact makeSlice_ok hT hx hit hk hie v1.int v2.int h0 h1 h2 h3 o ho
        · exact h.elim
      · exact h.elim
    · exact h.elim
  · rename_i c ho
    split at h
    · rename_i hcal
      split at h
      · rename_i s x t u hargs hty
        have ha : c.args = #[s, x] := by have := congrArg List.toArray hargs; simpa using this
        have hb : c.argTypes = #[t, u] := by have := congrArg List.toArray hty; simpa using this
        split at h
        · rename_i it iu hit hiu
          split at h
          · rename_i e hk
            obtain ⟨d, hd, hm⟩ := (hT _ _ hit).desc
            obtain ⟨d2, hd2, hm2⟩ := (hT _ _ hiu).desc
            rw [hk] at hm
            simp only at hm
            subst hm
            have fin : ∀ ie, T e = some ie → (∀ k, d2 ≠ .int k) → vappend ie roots (ev env s) (ev env x) K → EffOk P C roots gh Fk w ((execOp a.eval o).run P w) K := by
              intro ie hie hni hv
              obtain ⟨v, w', cc, roots', gh', Fk', h1, h2, h3, h4, h5⟩ := vappend_ok (ty := o.type) hT hx hie hd hd2 hni hv (he.ev s) (he.ev x)
              refine .inl ⟨w', cc, v, roots', gh', Fk', .inl ?_, h2, h3, h4, h5⟩
              simp [execOp, ho, resolve, hcal, ha, hb, invoke, builtin, h1]
            split at h
            · rename_i ie e2 hie hk2
              rw [hk2] at hm2
              simp only at hm2
              subst hm2
              split at h
              · exact h.elim
              · exact fin ie hie (fun k e => by cases e) h
            · rename_i ie hie hk2
              rw [hk2] at hm2
              simp only at hm2
              subst hm2
              split at h
              · split at h
                · exact fin ie hie (fun k e => by cases e) h
                · exact h.elim
              · exact h.elim
            · exact h.elim
          · exact h.elim
        · exact h.elim
      · exact h.elim
    · rename_i fx hcal
      split at h
      · rename_i f caps hf
        obtain ⟨⟨fn, hfn, hnm, hbd⟩, hc⟩ := h
        have hv := he.ev fx
        rw [hf] at hv
        obtain ⟨us, hus, hcu⟩ := hv.fnv
        have hall := VRs.app (evs he c.args.toList) hcu
        refine .inr ⟨f, (c.args.toList.map a.eval ++ us).toArray, ?_, hc hG gh Fk w _ hx hall⟩
        have hargs : c.args.map a.eval ++ us.toArray = (c.args.toList.map a.eval ++ us).toArray := by apply Array.ext'; simp
        simp only [execOp, ho, resolve, hcal, hus, Deferred.ofValue, Sem.run_bind, Sem.run_pure, Result.andThen_ok, invoke, callFunc, run_program, hfn, hnm, hbd, Bool.false_eq_true, if_false, Array.empty_append]
        rw [hargs]
      · exact h.elim
    · exact h.elim
  · exact h.elim
end
end Go.Proofs.YtjldkpggcjolcaaV
