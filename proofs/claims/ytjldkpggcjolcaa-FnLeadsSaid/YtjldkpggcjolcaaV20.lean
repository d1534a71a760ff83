/- Regions and code over the abstract state. Conditions: the table of types fits the program. -/
import Derived.Test.YtjldkpggcjolcaaV19
namespace Go.Proofs.YtjldkpggcjolcaaV
set_option linter.unusedVariables false
set_option linter.unusedSimpArgs false

/-- Where a walk began: what was known there is known still. -/
structure Bs where
  r : List Root
  g : Nat → Gh
  F : Nat → List Nat
  w : World

/-- The state stands for the frame and the world. -/
def Rel (C : Cx) (B : Bs) (nt : Nat) (σ : St) (a : Act) (w : World) : Prop :=
  ∃ gh Fk, HX C σ.heap gh Fk [] w ∧ Ext B.r B.g B.F [] B.w σ.heap gh Fk [] w ∧ a.defers = [] ∧ a.tmps.size = nt ∧
    EnvR (okF w σ.heap Fk []) w σ.heap gh σ.env a.tmps

/-- What all of a function's walk rests on. -/
structure Env0 where
  P : Program
  T : Tbl
  C : Cx
  B : Bs
  nt : Nat
  L : Low
  hG : Gl P L C.w0 C.F0

def dstPut (nt : Nat) (dst : Option Nat) (c : VV) (env : List (Nat × VV)) (heap : List Root) (K : St → Prop) : Prop :=
  match dst with
  | some d => K ⟨put env d c, heap⟩
  | none => K ⟨env, heap⟩

def vop (E : Env0) (o : Oper) (σ : St) (K : St → Prop) : Prop :=
  match vpure E.T σ.env σ.heap o with
  | some c => vcond σ.env o ∧ dstPut E.nt o.dst c σ.env σ.heap K
  | none => veff E.L E.P E.T E.C σ.env σ.heap o fun c h => dstPut E.nt o.dst c σ.env h K

def gval (ops : Array Oper) (env : List (Nat × VV)) (j : Nat) : Option Bool :=
  match (ops[j]?).bind (·.dst) with
  | some d => match look env d with
    | .bool b => some b
    | _ => none
  | none => none

def vops (E : Env0) (ops : Array Oper) : List Oper → St → (St → Prop) → Prop
  | [], σ, K => K σ
  | o :: r, σ, K => match o.guard with
    | none => vop E o σ fun σ' => vops E ops r σ' K
    | some (j, want) => match gval ops σ.env j with
      | some b => (b = want → vop E o σ fun σ' => vops E ops r σ' K) ∧ (b = !want → dstPut E.nt o.dst .undef σ.env σ.heap fun σ' => vops E ops r σ' K)
      | none => False

section
variable {E : Env0} {a : Act} {w : World} {σ : St}

theorem rel_put {d : Option Nat} {roots : List Root} {gh : Nat → Gh} {Fk : Nat → List Nat} {env : List (Nat × VV)} {c : VV} {v : Value} (hx : HX E.C roots gh Fk [] w) (hbs : Ext E.B.r E.B.g E.B.F [] E.B.w roots gh Fk [] w) (hd : a.defers = []) (hs : a.tmps.size = E.nt)
    (he : EnvR (okF w roots Fk []) w roots gh env a.tmps) (hc : VRs (okF w roots Fk []) w roots gh [c] [v]) {K : St → Prop} (hlt : ∀ d', d = some d' → d' < E.nt) (h : dstPut E.nt d c env roots K) : ∃ σ', K σ' ∧ Rel E.C E.B E.nt σ' (a.put d v) w := by
  cases d with
  | none => exact ⟨_, h, gh, Fk, hx, hbs, hd, hs, he⟩
  | some d =>
    have hlt' := hlt d rfl
    exact ⟨_, h, gh, Fk, hx, hbs, hd, by simp [Act.put, hs], he.put (by omega) hc⟩

theorem vop_ok (hT : TOk E.P E.T) {o : Oper} (hlt : ∀ d', o.dst = some d' → d' < E.nt) {K : St → Prop} {next : Act → World → Prop} {Q : Exit → Act → World → Prop} (h : vop E o σ K) (hr : Rel E.C E.B E.nt σ a w) (hn : ∀ σ' a' w', K σ' → Rel E.C E.B E.nt σ' a' w' → next a' w') : o.wp E.P a w next Q := by
  obtain ⟨gh, Fk, hx, hbs, hd, hs, he⟩ := hr
  unfold vop at h
  unfold Oper.wp
  split at h
  · rename_i c hc
    obtain ⟨hcond, h⟩ := h
    obtain ⟨u, hrun, hu⟩ := vpure_ok hT hx he hc hcond
    rw [hrun w (Same.refl w), Oper.upon_value]
    obtain ⟨σ', hK, hr'⟩ := rel_put hx hbs hd hs he hu hlt h
    exact hn _ _ _ hK hr'
  · rcases veff_ok E.hG hT hx he h with ⟨w', c, u, roots', gh', Fk', hrun, hK, hx', hext, hu⟩ | ⟨f, vs, hrun, hcalls⟩
    · obtain ⟨σ', hK', hr'⟩ := rel_put hx' (hbs.trans hext) hd hs (hext.env he) hu hlt hK
      rcases hrun with hrun | ⟨hrun, rfl⟩
      · rw [hrun, Oper.upon_value]; exact hn _ _ _ hK' hr'
      · rw [hrun, Oper.upon_skip]; exact hn _ _ _ hK' hr'
    · rw [hrun, Oper.upon_enter]
      refine hcalls.mono fun e w' ⟨v, c, roots', gh', Fk', he', hK, hx', hext, hu⟩ => ?_
      subst he'
      obtain ⟨σ', hK', hr'⟩ := rel_put hx' (hbs.trans hext) hd hs (hext.env he) hu hlt hK
      exact hn _ _ _ hK' hr'

theorem gval_ok {ops : Array Oper} {roots : List Root} {gh : Nat → Gh} {Fk : Nat → List Nat} (hs : a.tmps.size = E.nt) (he : EnvR (okF w roots Fk []) w roots gh σ.env a.tmps) {j : Nat} {b : Bool} (h : gval ops σ.env j = some b)
    (hlt : ∀ d, (ops[j]?).bind (·.dst) = some d → d < E.nt) : yielded ops a.tmps j = some b := by
  unfold gval at h
  split at h
  · rename_i d hd
    split at h
    · rename_i b' hb
      cases h
      have := he d
      rw [hb] at this
      have hv := this.bool
      have hl := hlt d hd
      rw [← hs] at hl
      have hv2 : a.tmps[d]? = some (.bool b) := by
        rw [Array.getElem?_eq_getElem hl]; simpa [Array.getD, hl] using hv
      have : (ops[j]?.bind (·.dst)).bind (fun t => a.tmps[t]?) = some (.bool b) := by rw [hd]; exact hv2
      simp only [yielded, this]
    · cases h
  · cases h

/-- Every operation writes into the frame. -/
def dstsOk (nt : Nat) (ops : Array Oper) : Bool := ops.all fun o => match o.dst with
  | some d => decide (d < nt)
  | none => true

theorem dstsOk_mem {nt : Nat} {ops : Array Oper} (h : dstsOk nt ops = true) : ∀ o ∈ ops.toList, ∀ d', o.dst = some d' → d' < nt := by
  intro o ho d hd
  obtain ⟨j, hj, e⟩ := List.getElem_of_mem ho
  have := Array.all_eq_true.1 h j (by simpa using hj)
  have e' : ops[j]'(by simpa using hj) = o := by simpa using e
  rw [e', hd] at this
  simpa using this

theorem dstsOk_spec {nt : Nat} {ops : Array Oper} (h : dstsOk nt ops = true) {j d : Nat} (hj : (ops[j]?).bind (·.dst) = some d) : d < nt := by
  simp only [Option.bind_eq_some_iff] at hj
  obtain ⟨o, ho, hd⟩ := hj
  have := Array.all_eq_true.1 h j (Array.getElem?_eq_some_iff.1 ho).1
  have e := (Array.getElem?_eq_some_iff.1 ho).2
  rw [e, hd] at this
  simpa using this

theorem vops_ok (hT : TOk E.P E.T) {ops : Array Oper} (hds : dstsOk E.nt ops = true) {Q : Exit → Act → World → Prop} {K : St → Prop} (hn : ∀ σ' a' w', K σ' → Rel E.C E.B E.nt σ' a' w' → Q .normal a' w') :
    ∀ (l : List Oper) (σ : St) (a : Act) (w : World), (∀ o ∈ l, ∀ d', o.dst = some d' → d' < E.nt) → vops E ops l σ K → Rel E.C E.B E.nt σ a w → wpList E.P ops Q l a w
  | [], σ, a, w, _, h, hr => wpList_nil (hn _ _ _ h hr)
  | o :: r, σ, a, w, hl, h, hr => by
    have hlo := hl o (by simp)
    have hlr : ∀ o ∈ r, ∀ d', o.dst = some d' → d' < E.nt := fun o ho => hl o (by simp [ho])
    refine wpList_step fun K' hK' => ?_
    simp only [vops] at h
    split at h
    · rename_i hg
      simp only [Region.wanted, hg, if_true]
      exact vop_ok hT hlo h hr fun σ' a' w' hK hr' => hK' _ _ (vops_ok hT hds hn r σ' a' w' hlr hK hr')
    · rename_i j want hg
      split at h
      · rename_i b hb
        obtain ⟨h1, h2⟩ := h
        have hr0 := hr
        obtain ⟨gh, Fk, hx, hbs, hd, hs, he⟩ := hr0
        have hy := gval_ok hs he hb (fun d hd => dstsOk_spec hds hd)
        simp only [Region.wanted, hg, hy]
        by_cases hw : b = want
        · subst hw
          simp only [beq_self_eq_true, if_true]
          exact vop_ok hT hlo (h1 rfl) hr fun σ' a' w' hK hr' => hK' _ _ (vops_ok hT hds hn r σ' a' w' hlr hK hr')
        · have hne : (some b == some want) = false := by simpa using hw
          rw [hne]
          simp only [Bool.false_eq_true, if_false]
          obtain ⟨σ', hK, hr'⟩ := rel_put hx hbs hd hs he (.undef undef .nil) hlo (h2 (by cases b <;> cases want <;> simp_all))
          exact hK' _ _ (vops_ok hT hds hn r σ' _ w hlr hK hr')
      · exact h.elim
end
end Go.Proofs.YtjldkpggcjolcaaV
