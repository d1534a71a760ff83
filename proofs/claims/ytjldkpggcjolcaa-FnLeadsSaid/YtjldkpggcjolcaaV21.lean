/- Code over the abstract state. Conditions: the table of types fits the program. -/
import Derived.Test.YtjldkpggcjolcaaV20
namespace Go.Proofs.YtjldkpggcjolcaaV
set_option linter.unusedVariables false
set_option linter.unusedSimpArgs false

/-- What a piece of code comes to, over the abstract state. -/
def VW (E : Env0) (c : Code) (Q : Exit → St → Prop) (σ : St) : Prop :=
  ∀ a w, Rel E.C E.B E.nt σ a w → c.wp E.P (fun e a' w' => ∃ σ', Q e σ' ∧ Rel E.C E.B E.nt σ' a' w') a w

/-- The parts of a call's way that yield one value whatever the order. -/
def QCall (L : Low) (P : Program) (C : Cx) (f : Nat) (args : List VV) (roots : List Root) (c : VV) : Prop :=
  (∃ fn, P.funcs[f]? = some fn ∧ (fn.name == "runtime.NumGoroutine") = false ∧ fn.body.isNone = false) ∧
  (Gl P L C.w0 C.F0 → ∀ gh Fk w vs, HX C roots gh Fk [] w → VRs (okF w roots Fk []) w roots gh args vs →
    ∃ v, Sc c v ∧ ∀ w', RowKit.Below w.heap.size w w' → Calls P f vs.toArray w' fun e w'' => e = .returned v ∧ RowKit.Below w.heap.size w w'')

def qop (E : Env0) (o : Oper) (env : List (Nat × VV)) (roots : List Root) (K : List (Nat × VV) → Prop) : Prop :=
  match vpure E.T env roots o with
  | some c => vcond env o ∧ dstPut E.nt o.dst c env roots fun σ => K σ.env
  | none => match o.op with
    | .call cl => match cl.callee with
      | .value fx => match ev env fx with
        | .fn f caps => ∃ c, QCall E.L E.P E.C f (cl.args.toList.map (ev env) ++ caps) roots c ∧ dstPut E.nt o.dst c env roots fun σ => K σ.env
        | _ => False
      | _ => False
    | _ => False

def qops (E : Env0) (ops : Array Oper) : List Oper → List (Nat × VV) → List Root → (List (Nat × VV) → Prop) → Prop
  | [], env, roots, K => K env
  | o :: r, env, roots, K => match o.guard with
    | none => qop E o env roots fun env' => qops E ops r env' roots K
    | some (j, want) => match gval ops env j with
      | some b => (b = want → qop E o env roots fun env' => qops E ops r env' roots K) ∧ (b = !want → dstPut E.nt o.dst .undef env roots fun σ => qops E ops r σ.env roots K)
      | none => False

/-- Every operation writes into the frame; where the order is drawn, that of the text will do. -/
def codeOk (nt : Nat) : Code → Bool
  | .region _ ops d => dstsOk nt ops && (!d || Region.lexB .any ops)
  | .seq x y => codeOk nt x && codeOk nt y
  | .cond _ x y => codeOk nt x && codeOk nt y
  | .block _ c => codeOk nt c
  | .loop c => codeOk nt c
  | .scope c => codeOk nt c
  | _ => true

/-- A loop's part of the walk. -/
def VLoop (E : Env0) (c : Code) (Q : Exit → St → Prop) (σ : St) : Prop := codeOk E.nt c = true → VW E (.loop c) Q σ

def vwp (E : Env0) : Code → (Exit → St → Prop) → St → Prop
  | .skip, Q, σ => Q .normal σ
  | .region _ ops false, Q, σ => vops E ops ops.toList σ (Q .normal)
  | .region _ ops true, Q, σ => qops E ops ops.toList σ.env σ.heap fun env => Q .normal ⟨env, σ.heap⟩
  | .seq x y, Q, σ => vwp E x (fun e σ' => match e with
    | .normal => vwp E y Q σ'
    | e => Q e σ') σ
  | .cond c x y, Q, σ => match ev σ.env c with
    | .bool b => (b = true → vwp E x Q σ) ∧ (b = false → vwp E y Q σ)
    | _ => False
  | .block id c, Q, σ => vwp E c (fun e σ' => match e with
    | .exit i => if i = id then Q .normal σ' else Q (.exit i) σ'
    | e => Q e σ') σ
  | .loop c, Q, σ => VLoop E c Q σ
  | .exit id, Q, σ => Q (.exit id) σ
  | .ret, Q, σ => Q .ret σ
  | .label _, Q, σ => Q .normal σ
  | .scope c, Q, σ => vwp E c (fun e σ' => match e with
    | .goto _ => False
    | e => Q e σ') σ
  | _, _, _ => False

section
variable {E : Env0} {Q Q' : Exit → St → Prop} {σ : St}

theorem VW.mono {c : Code} (h : VW E c Q σ) (hq : ∀ e σ', Q e σ' → Q' e σ') : VW E c Q' σ :=
  fun a w hr => wp_mono (h a w hr) fun e a' w' ⟨σ', h1, h2⟩ => ⟨σ', hq _ _ h1, h2⟩

theorem VCall.mono {L : Low} {P : Program} {C : Cx} {f : Nat} {args : List VV} {roots : List Root} {K K' : VV → List Root → Prop} (h : VCall L P C f args roots K) (hk : ∀ c r, K c r → K' c r) : VCall L P C f args roots K' :=
  ⟨h.1, fun hG gh Fk w vs hx hv => (h.2 hG gh Fk w vs hx hv).mono fun e w' ⟨v, c, roots', gh', Fk', h1, h2, h3⟩ => ⟨v, c, roots', gh', Fk', h1, hk _ _ h2, h3⟩⟩

theorem Rel.below {C : Cx} {w w' : World} {gh : Nat → Gh} {Fk : Nat → List Nat} {roots : List Root} (hx : HX C roots gh Fk [] w) (hb : RowKit.Below w.heap.size w w') :
    HX C roots gh Fk [] w' ∧ Ext roots gh Fk [] w roots gh Fk [] w' := by
  have hext : Ext roots gh Fk [] w roots gh Fk [] w' := ⟨.refl _ _, fun tag h1 h2 b h => by
    have hlt : b < w.heap.size := okF_lt h
    refine ⟨?_, hb.block b hlt⟩
    cases tag with
    | none => exact ⟨Nat.lt_of_lt_of_le hlt hb.size, h.2⟩
    | some x => exact ⟨Nat.lt_of_lt_of_le hlt hb.size, h.2⟩⟩
  refine ⟨?_, hext⟩
  exact {
    kept := ⟨hb.os.trans hx.kept.os, hb.tape.trans hx.kept.tape, hb.output.trans hx.kept.output, Nat.le_trans hx.kept.size hb.size, fun b h1 h2 => (hb.block b (Nat.lt_of_lt_of_le h1 hx.kept.size)).trans (hx.kept.block b h1 h2)⟩
    one := fun k R hR => (hx.one k R hR).mono (fun b hm => hb.block b (hx.mine k R hR b hm).1) hext.compat hext.keep
    nodup := hx.nodup
    apart := hx.apart
    mine := fun k R hR b hm => ⟨Nat.lt_of_lt_of_le (hx.mine k R hR b hm).1 hb.size, (hx.mine k R hR b hm).2⟩
    heldN := hx.heldN
    heldA := hx.heldA
    heldM := fun b hm => by cases hm }

theorem quiet_put {roots : List Root} {gh : Nat → Gh} {Fk : Nat → List Nat} {w : World} {a : Act} {env : List (Nat × VV)} {d : Option Nat} {c : VV} {v : Value} (hs : a.tmps.size = E.nt) (hd : a.defers = [])
    (he : EnvR (okF w roots Fk []) w roots gh env a.tmps) (hc : VRs (okF w roots Fk []) w roots gh [c] [v]) {K : List (Nat × VV) → Prop} (hlt : ∀ d', d = some d' → d' < E.nt) (h : dstPut E.nt d c env roots fun σ => K σ.env) :
    ∃ env', K env' ∧ (a.put d v).tmps.size = E.nt ∧ (a.put d v).defers = [] ∧ EnvR (okF w roots Fk []) w roots gh env' (a.put d v).tmps := by
  cases d with
  | none => exact ⟨_, h, hs, hd, he⟩
  | some d =>
    have hlt' := hlt d rfl
    exact ⟨_, h, by simp [Act.put, hs], hd, he.put (by omega) hc⟩

theorem qop_ok (hT : TOk E.P E.T) {o : Oper} (hlt : ∀ d', o.dst = some d' → d' < E.nt) {roots : List Root} {gh : Nat → Gh} {Fk : Nat → List Nat} {w : World} (hx : HX E.C roots gh Fk [] w) {a : Act} {env : List (Nat × VV)} (hs : a.tmps.size = E.nt) (hd : a.defers = [])
    (he : EnvR (okF w roots Fk []) w roots gh env a.tmps) {K : List (Nat × VV) → Prop} {next : Act → Prop} (h : qop E o env roots K)
    (hn : ∀ env' (a' : Act), K env' → a'.tmps.size = E.nt → a'.defers = [] → EnvR (okF w roots Fk []) w roots gh env' a'.tmps → next a') : o.quiet E.P a (fun w' => RowKit.Below w.heap.size w w') next := by
  unfold qop at h
  split at h
  · rename_i c hc
    obtain ⟨hcond, h⟩ := h
    obtain ⟨u, hrun, hu⟩ := vpure_ok hT hx he hc hcond
    obtain ⟨env', hK, h1, h2, h3⟩ := quiet_put hs hd he hu hlt h
    refine ⟨u, fun w' hw' => ?_, hn _ _ hK h1 h2 h3⟩
    unfold Oper.quietAt
    rw [hrun w' hw'.block]
    exact ⟨rfl, rfl⟩
  · split at h
    · rename_i cl ho
      split at h
      · rename_i fx hcl
        split at h
        · rename_i f caps hf
          obtain ⟨c, ⟨⟨fn, hfn, hgo, hbody⟩, hq⟩, hput⟩ := h
          have hv := he.ev fx
          rw [hf] at hv
          obtain ⟨us, hus, hcaps⟩ := hv.fnv
          have hargs := (evs he cl.args.toList).app hcaps
          obtain ⟨v, hcv, hcall⟩ := hq E.hG gh Fk w _ hx hargs
          obtain ⟨env', hK, h1, h2, h3⟩ := quiet_put hs hd he (.sc hcv .nil) hlt hput
          refine ⟨v, fun w' hw' => ?_, hn _ _ hK h1 h2 h3⟩
          unfold Oper.quietAt
          have ha : cl.args.map a.eval ++ us.toArray = (cl.args.toList.map a.eval ++ us).toArray := by apply Array.ext'; simp
          have hrun : (execOp a.eval o).run E.P w' = .ok (.enter f (cl.args.toList.map a.eval ++ us).toArray) w' := by
            simp only [execOp, ho, resolve, hcl, hus, Deferred.ofValue, Sem.run_bind, Sem.run_pure, Result.andThen_ok, invoke, callFunc, run_program, hfn, hgo, hbody, Bool.false_eq_true, if_false, Array.empty_append]
            rw [ha]
          rw [hrun]
          exact ⟨rfl, hcall w' hw'⟩
        · exact h.elim
      · exact h.elim
    · exact h.elim

theorem qops_ok (hT : TOk E.P E.T) {ops : Array Oper} (hds : dstsOk E.nt ops = true) {roots : List Root} {gh : Nat → Gh} {Fk : Nat → List Nat} {w : World} (hx : HX E.C roots gh Fk [] w) {K : List (Nat × VV) → Prop} {Qq : Act → Prop}
    (hn : ∀ env' (a' : Act), K env' → a'.tmps.size = E.nt → a'.defers = [] → EnvR (okF w roots Fk []) w roots gh env' a'.tmps → Qq a') :
    ∀ (l : List Oper) (env : List (Nat × VV)) (a : Act), (∀ o ∈ l, ∀ d', o.dst = some d' → d' < E.nt) → qops E ops l env roots K → a.tmps.size = E.nt → a.defers = [] → EnvR (okF w roots Fk []) w roots gh env a.tmps →
      wpQuiet E.P ops (fun w' => RowKit.Below w.heap.size w w') Qq l a
  | [], env, a, _, h, hs, hd, he => wpQuiet_nil (hn _ _ h hs hd he)
  | o :: r, env, a, hl, h, hs, hd, he => by
    have hlo := hl o (by simp)
    have hlr : ∀ o ∈ r, ∀ d', o.dst = some d' → d' < E.nt := fun o ho => hl o (by simp [ho])
    refine wpQuiet_step fun K' hK' => ?_
    simp only [qops] at h
    split at h
    · rename_i hg
      simp only [Region.wanted, hg, if_true]
      exact qop_ok hT hlo hx hs hd he h fun env' a' hK h1 h2 h3 => hK' _ (qops_ok hT hds hx hn r env' a' hlr hK h1 h2 h3)
    · rename_i j want hg
      split at h
      · rename_i b hb
        obtain ⟨h1, h2⟩ := h
        have hy := gval_ok (σ := ⟨env, roots⟩) hs he hb (fun d hd => dstsOk_spec hds hd)
        simp only [Region.wanted, hg, hy]
        by_cases hw : b = want
        · subst hw
          simp only [beq_self_eq_true, if_true]
          exact qop_ok hT hlo hx hs hd he (h1 rfl) fun env' a' hK h1 h2 h3 => hK' _ (qops_ok hT hds hx hn r env' a' hlr hK h1 h2 h3)
        · have hne : (some b == some want) = false := by simpa using hw
          rw [hne]
          simp only [Bool.false_eq_true, if_false]
          obtain ⟨env', hK, g1, g2, g3⟩ := quiet_put (K := fun env' => qops E ops r env' roots K) (c := .undef) hs hd he (.undef undef .nil) hlo (h2 (by cases b <;> cases want <;> simp_all))
          exact hK' _ (qops_ok hT hds hx hn r env' _ hlr hK g1 g2 g3)
      · exact h.elim

/-- The walk over the abstract state is the machine's. -/
theorem vwp_ok (hT : TOk E.P E.T) (hm : E.P.follows .mixedOrders = true) : ∀ (c : Code) (Q : Exit → St → Prop) (σ : St), codeOk E.nt c = true → vwp E c Q σ → VW E c Q σ
  | .skip, Q, σ, hc, h => fun a w hr => wp_skip ⟨σ, h, hr⟩
  | .region id ops false, Q, σ, hc, h => fun a w hr => by
    have hds : dstsOk E.nt ops = true := by simpa [codeOk] using hc
    exact wp_region_list (vops_ok hT hds (Q := fun e a' w' => ∃ σ', Q e σ' ∧ Rel E.C E.B E.nt σ' a' w') (fun σ' a' w' hK hr' => ⟨σ', hK, hr'⟩) _ σ a w (dstsOk_mem hds) h hr)
  | .region id ops true, Q, σ, hc, h => fun a w hr => by
    simp only [codeOk, Bool.and_eq_true, Bool.not_true, Bool.false_or] at hc
    obtain ⟨hds, hB'⟩ := hc
    obtain ⟨gh, Fk, hx, hbs, hd, hs, he⟩ := hr
    refine wp_region_quiet (C := fun w' => RowKit.Below w.heap.size w w') hm hB' ⟨rfl, rfl, rfl, Nat.le_refl _, fun _ _ => rfl⟩ ?_
    refine qops_ok hT hds hx (fun env' a' hK h1 h2 h3 w' hw' => ?_) _ _ _ (dstsOk_mem hds) h hs hd he
    obtain ⟨hx', hext⟩ := Rel.below hx hw'
    exact ⟨_, hK, gh, Fk, hx', hbs.trans hext, h2, h1, hext.env h3⟩
  | .seq x y, Q, σ, hc, h => fun a w hr => by
    simp only [codeOk, Bool.and_eq_true] at hc
    refine wp_seq (wp_mono (vwp_ok hT hm x _ σ hc.1 h a w hr) fun e a' w' ⟨σ', h1, h2⟩ => ?_)
    cases e with
    | normal => exact vwp_ok hT hm y _ σ' hc.2 h1 a' w' h2
    | _ => exact ⟨σ', h1, h2⟩
  | .cond c x y, Q, σ, hc, h => fun a w hr => by
    simp only [codeOk, Bool.and_eq_true] at hc
    simp only [vwp] at h
    split at h
    · rename_i b hb
      have hr0 := hr
      obtain ⟨gh, Fk, hx, hbs, hd, hs, he⟩ := hr0
      have hv := he.ev c
      rw [hb] at hv
      refine wp_cond_split hv.bool (fun e => vwp_ok hT hm x _ σ hc.1 (h.1 e) a w hr) (fun e => vwp_ok hT hm y _ σ hc.2 (h.2 e) a w hr)
    · exact h.elim
  | .block id c, Q, σ, hc, h => fun a w hr => by
    refine wp_block (wp_mono (vwp_ok hT hm c _ σ hc h a w hr) fun e a' w' ⟨σ', h1, h2⟩ => ?_)
    cases e with
    | exit i =>
      simp only [Exit.inBlock] at h1 ⊢
      split
      · rename_i e; rw [if_pos e] at h1; exact ⟨σ', h1, h2⟩
      · rename_i e; rw [if_neg e] at h1; exact ⟨σ', h1, h2⟩
    | _ => exact ⟨σ', h1, h2⟩
  | .loop c, Q, σ, hc, h => h hc
  | .exit id, Q, σ, hc, h => fun a w hr => wp_exit ⟨σ, h, hr⟩
  | .ret, Q, σ, hc, h => fun a w hr => wp_ret ⟨σ, h, hr⟩
  | .label l, Q, σ, hc, h => fun a w hr => wp_label ⟨σ, h, hr⟩
  | .scope c, Q, σ, hc, h => fun a w hr => by
    refine wp_scope_straight (wp_mono (vwp_ok hT hm c _ σ hc h a w hr) fun e a' w' ⟨σ', h1, h2⟩ => ?_)
    cases e with
    | goto l => exact h1.elim
    | _ => exact ⟨σ', h1, h2⟩
  | .rangeFunc .., Q, σ, hc, h => h.elim
  | .goto _, Q, σ, hc, h => h.elim
  | .refuse _, Q, σ, hc, h => h.elim

/-- A loop: states in a row, each round nearer to the end. -/
theorem VW.loop (hT : TOk E.P E.T) (hm : E.P.follows .mixedOrders = true) {c : Code} (hc : codeOk E.nt c = true) {ι : Type} (L : St → St → Prop) (S : ι → St) (hL : ∀ σ i, L σ (S i) → ∀ a w, Rel E.C E.B E.nt σ a w → Rel E.C E.B E.nt (S i) a w) (μ : ι → Nat) (i0 : ι) (h0 : L σ (S i0))
    (round : ∀ i, vwp E c (fun e σ' => match e with
      | .normal => ∃ j, L σ' (S j) ∧ μ j < μ i
      | e => Q e σ') (S i)) : VW E (.loop c) Q σ := by
  intro a w hr b k cs
  have key : ∀ n i a w, μ i = n → Rel E.C E.B E.nt (S i) a w →
      ∃ e a' w', (∃ σ', Q e σ' ∧ Rel E.C E.B E.nt σ' a' w') ∧ Arrives E.P (lone (b.at a (.code c :: .inLoop c :: k)) cs w) b k cs e a' w' := by
    intro n
    induction n using Nat.strongRecOn with
    | _ n ih =>
      intro i a w hn hI
      obtain ⟨e, a₁, w₁, ⟨σ', hq, hr'⟩, harr⟩ := vwp_ok hT hm c _ (S i) hc (round i) a w hI b (.inLoop c :: k) cs
      cases e with
      | normal =>
        obtain ⟨j, hj, hlt⟩ := hq
        obtain ⟨e₂, a₂, w₂, hq₂, harr₂⟩ := ih (μ j) (hn ▸ hlt) j a₁ w₁ rfl (hL _ _ hj _ _ hr')
        exact ⟨e₂, a₂, w₂, hq₂, .of_steps (Steps.trans harr (.one step_inLoop)) harr₂⟩
      | exit id => exact ⟨_, a₁, w₁, ⟨σ', hq, hr'⟩, .pass (x := .inLoop c) rfl (fun _ _ => .inl (by simp)) harr⟩
      | goto l => exact ⟨_, a₁, w₁, ⟨σ', hq, hr'⟩, .pass (x := .inLoop c) rfl (fun _ _ => .inl (by simp)) harr⟩
      | ret => exact ⟨_, a₁, w₁, ⟨σ', hq, hr'⟩, .pass (x := .inLoop c) rfl (fun _ _ => .inl (by simp)) harr⟩
      | panic ch => exact ⟨_, a₁, w₁, ⟨σ', hq, hr'⟩, .pass (x := .inLoop c) rfl (fun _ _ => .inl (by simp)) harr⟩
      | outgrown => exact ⟨_, a₁, w₁, ⟨σ', hq, hr'⟩, .pass (x := .inLoop c) rfl (fun _ _ => .inl (by simp)) harr⟩
  obtain ⟨e, a', w', hq, harr⟩ := key _ i0 a w rfl (hL _ _ h0 a w hr)
  exact ⟨e, a', w', hq, .of_steps (.one step_loop) harr⟩
end
end Go.Proofs.YtjldkpggcjolcaaV
