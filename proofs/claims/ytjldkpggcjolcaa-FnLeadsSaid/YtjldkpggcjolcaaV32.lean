/- The walk over a list of what is to be done. Conditions: the table of types fits the program. -/
import Derived.Test.YtjldkpggcjolcaaV31
namespace Go.Proofs.YtjldkpggcjolcaaV
set_option linter.unusedVariables false
set_option linter.unusedSimpArgs false

def dput (dst : Option Nat) (c : VV) (env : List (Nat × VV)) : List (Nat × VV) :=
  match dst with
  | some d => put env d c
  | none => env

def opE (E : Env0) (o : Oper) (σ : St) (K : VV → List Root → Prop) : Prop :=
  match vpure E.T σ.env σ.heap o with
  | some c => vcond σ.env o ∧ K c σ.heap
  | none => (effE E.T σ.env σ.heap o).to E.L E.P E.C σ.heap K

/-- What a guard says: a bool, or that its operation was left out. -/
def gv (ops : Array Oper) (env : List (Nat × VV)) (j : Nat) : Option (Option Bool) :=
  match (ops[j]?).bind (·.dst) with
  | some d => match look env d with
    | .bool b => some (some b)
    | .tup [] => some none
    | _ => none
  | none => none

theorem gv_ok {E : Env0} {a : Act} {w : World} {env : List (Nat × VV)} {ops : Array Oper} {roots : List Root} {gh : Nat → Gh} {Fk : Nat → List Nat} (hs : a.tmps.size = E.nt) (he : EnvR (okF w roots Fk []) w roots gh env a.tmps) {j : Nat} {b : Option Bool} (h : gv ops env j = some b)
    (hlt : ∀ d, (ops[j]?).bind (·.dst) = some d → d < E.nt) : yielded ops a.tmps j = b := by
  unfold gv at h
  split at h
  · rename_i d hd
    have hl := hlt d hd
    rw [← hs] at hl
    have hget : a.tmps[d]? = some (a.tmps.getD d undef) := by
      rw [Array.getElem?_eq_getElem hl]; simp [Array.getD, hl]
    split at h
    · rename_i b' hb
      cases h
      have := he d
      rw [hb] at this
      have hv := this.bool
      rw [hv] at hget
      have : (ops[j]?.bind (·.dst)).bind (fun t => a.tmps[t]?) = some (.bool b') := by rw [hd]; exact hget
      simp only [yielded, this]
    · rename_i hb
      cases h
      have := he d
      rw [hb] at this
      have hv : a.tmps.getD d undef = .tuple #[] := by
        generalize a.tmps.getD d undef = v at this
        cases this with
        | sc h _ => cases h
        | tup ds us h t =>
          cases h
          rfl
      rw [hv] at hget
      have : (ops[j]?.bind (·.dst)).bind (fun t => a.tmps[t]?) = some (.tuple #[]) := by rw [hd]; exact hget
      simp only [yielded, this]
    · cases h
  · cases h

def opsE (E : Env0) (A : Array Oper) : List Oper → St → (St → Prop) → Prop
  | [], σ, K => K σ
  | o :: r, σ, K => match o.guard with
    | none => opE E o σ fun c h => opsE E A r ⟨dput o.dst c σ.env, h⟩ K
    | some (j, want) => match gv A σ.env j with
      | some (some b) => (b = want → opE E o σ fun c h => opsE E A r ⟨dput o.dst c σ.env, h⟩ K) ∧ (b = !want → opsE E A r ⟨dput o.dst (.tup []) σ.env, σ.heap⟩ K)
      | some none => opsE E A r ⟨dput o.dst (.tup []) σ.env, σ.heap⟩ K
      | none => False

def qopE (E : Env0) (o : Oper) (env : List (Nat × VV)) (roots : List Root) (K : List (Nat × VV) → Prop) : Prop := qop E o env roots K

def qopsE (E : Env0) (ops : Array Oper) : List Oper → List (Nat × VV) → List Root → (List (Nat × VV) → Prop) → Prop
  | [], env, roots, K => K env
  | o :: r, env, roots, K => match o.guard with
    | none => qop E o env roots fun env' => qopsE E ops r env' roots K
    | some (j, want) => match gv ops env j with
      | some (some b) => (b = want → qop E o env roots fun env' => qopsE E ops r env' roots K) ∧ (b = !want → qopsE E ops r (dput o.dst (.tup []) env) roots K)
      | some none => qopsE E ops r (dput o.dst (.tup []) env) roots K
      | none => False

theorem dstPut_dput (nt : Nat) (d : Option Nat) (c : VV) (env : List (Nat × VV)) (h : List Root) (K : St → Prop) : dstPut nt d c env h K = K ⟨dput d c env, h⟩ := by
  cases d <;> rfl

theorem Eff.to_mono {L : Low} {P : Program} {C : Cx} {roots : List Root} {K K' : VV → List Root → Prop} (hk : ∀ c r, K c r → K' c r) : ∀ {e : Eff}, e.to L P C roots K → e.to L P C roots K'
  | .no, h => h
  | .ok s c r, h => ⟨h.1, hk _ _ h.2⟩
  | .call f args, h => VCall.mono h hk

theorem opE_ok {E : Env0} {o : Oper} {σ : St} {K : VV → List Root → Prop} (h : opE E o σ K) : vop E o σ fun σ' => ∃ c r, σ' = ⟨dput o.dst c σ.env, r⟩ ∧ K c r := by
  unfold opE at h
  unfold vop
  split at h
  · rename_i c hc
    simp only [hc, dstPut_dput]
    exact ⟨h.1, _, _, rfl, h.2⟩
  · rename_i hc
    simp only [hc]
    exact effE_ok (Eff.to_mono (fun c r hk => by rw [dstPut_dput]; exact ⟨_, _, rfl, hk⟩) h)

theorem Eff.to_imp {E : Env0} {o : Oper} {σ : St} {K K' : VV → List Root → Prop} (h : opE E o σ K) (hk : ∀ c r, K c r → K' c r) : opE E o σ K' := by
  unfold opE at h ⊢
  split at h
  · exact ⟨h.1, hk _ _ h.2⟩
  · exact Eff.to_mono hk h

section
variable {E : Env0} {a : Act} {w : World} {σ : St}

theorem opsE_ok (hT : TOk E.P E.T) {A : Array Oper} (hds : dstsOk E.nt A = true) {Q : Exit → Act → World → Prop} {K : St → Prop} (hn : ∀ σ' a' w', K σ' → Rel E.C E.B E.nt σ' a' w' → Q .normal a' w') :
    ∀ (l : List Oper) (σ : St) (a : Act) (w : World), (∀ o ∈ l, ∀ d', o.dst = some d' → d' < E.nt) → opsE E A l σ K → Rel E.C E.B E.nt σ a w → wpList E.P A Q l a w
  | [], σ, a, w, _, h, hr => wpList_nil (hn _ _ _ h hr)
  | o :: r, σ, a, w, hl, h, hr => by
    have hlo := hl o (by simp)
    have hlr : ∀ o ∈ r, ∀ d', o.dst = some d' → d' < E.nt := fun o ho => hl o (by simp [ho])
    refine wpList_step fun K' hK' => ?_
    simp only [opsE] at h
    split at h
    · rename_i hg
      simp only [Region.wanted, hg, if_true]
      exact vop_ok hT hlo (opE_ok h) hr fun σ' a' w' ⟨c, r', e, hK⟩ hr' => by subst e; exact hK' _ _ (opsE_ok hT hds hn r _ a' w' hlr hK hr')
    · rename_i j want hg
      have hr0 := hr
      obtain ⟨gh, Fk, hx, hbs, hd, hs, he⟩ := hr0
      have skip : opsE E A r ⟨dput o.dst (.tup []) σ.env, σ.heap⟩ K → K' (a.put o.dst undef) w := fun h2' => by
        obtain ⟨σ', hK, hr'⟩ := rel_put (K := fun σ' => opsE E A r σ' K) (c := .tup []) (v := undef) hx hbs hd hs he (.tup [] [] .nil .nil) hlo (by rw [dstPut_dput]; exact h2')
        exact hK' _ _ (opsE_ok hT hds hn r σ' _ w hlr hK hr')
      split at h
      · rename_i b hb
        obtain ⟨h1, h2⟩ := h
        have hy := gv_ok hs he hb (fun d hd => dstsOk_spec hds hd)
        simp only [Region.wanted, hg, hy]
        by_cases hw : b = want
        · subst hw
          simp only [beq_self_eq_true, if_true]
          exact vop_ok hT hlo (opE_ok (h1 rfl)) hr fun σ' a' w' ⟨c, r', e, hK⟩ hr' => by subst e; exact hK' _ _ (opsE_ok hT hds hn r _ a' w' hlr hK hr')
        · have hne : (some b == some want) = false := by simpa using hw
          rw [hne]
          simp only [Bool.false_eq_true, if_false]
          exact skip (h2 (by cases b <;> cases want <;> first | rfl | exact (hw rfl).elim))
      · rename_i hb
        have hy := gv_ok hs he hb (fun d hd => dstsOk_spec hds hd)
        simp only [Region.wanted, hg, hy]
        have hne : (none == some want) = false := rfl
        rw [hne]
        simp only [Bool.false_eq_true, if_false]
        exact skip h
      · exact h.elim

theorem qopsE_ok (hT : TOk E.P E.T) {ops : Array Oper} (hds : dstsOk E.nt ops = true) {roots : List Root} {gh : Nat → Gh} {Fk : Nat → List Nat} {w : World} (hx : HX E.C roots gh Fk [] w) {K : List (Nat × VV) → Prop} {Qq : Act → Prop}
    (hn : ∀ env' (a' : Act), K env' → a'.tmps.size = E.nt → a'.defers = [] → EnvR (okF w roots Fk []) w roots gh env' a'.tmps → Qq a') :
    ∀ (l : List Oper) (env : List (Nat × VV)) (a : Act), (∀ o ∈ l, ∀ d', o.dst = some d' → d' < E.nt) → qopsE E ops l env roots K → a.tmps.size = E.nt → a.defers = [] → EnvR (okF w roots Fk []) w roots gh env a.tmps →
      wpQuiet E.P ops (fun w' => RowKit.Below w.heap.size w w') Qq l a
  | [], env, a, _, h, hs, hd, he => wpQuiet_nil (hn _ _ h hs hd he)
  | o :: r, env, a, hl, h, hs, hd, he => by
    have hlo := hl o (by simp)
    have hlr : ∀ o ∈ r, ∀ d', o.dst = some d' → d' < E.nt := fun o ho => hl o (by simp [ho])
    refine wpQuiet_step fun K' hK' => ?_
    have skip : qopsE E ops r (dput o.dst (.tup []) env) roots K → K' (a.put o.dst undef) := fun h2 => by
      obtain ⟨env', hK, g1, g2, g3⟩ := quiet_put (K := fun env' => qopsE E ops r env' roots K) (c := .tup []) (v := undef) hs hd he (.tup [] [] .nil .nil) hlo (by rw [dstPut_dput]; exact h2)
      exact hK' _ (qopsE_ok hT hds hx hn r env' _ hlr hK g1 g2 g3)
    simp only [qopsE] at h
    split at h
    · rename_i hg
      simp only [Region.wanted, hg, if_true]
      exact qop_ok hT hlo hx hs hd he h fun env' a' hK h1 h2 h3 => hK' _ (qopsE_ok hT hds hx hn r env' a' hlr hK h1 h2 h3)
    · rename_i j want hg
      split at h
      · rename_i b hb
        obtain ⟨h1, h2⟩ := h
        have hy := gv_ok hs he hb (fun d hd => dstsOk_spec hds hd)
        simp only [Region.wanted, hg, hy]
        by_cases hw : b = want
        · subst hw
          simp only [beq_self_eq_true, if_true]
          exact qop_ok hT hlo hx hs hd he (h1 rfl) fun env' a' hK h1 h2 h3 => hK' _ (qopsE_ok hT hds hx hn r env' a' hlr hK h1 h2 h3)
        · have hne : (some b == some want) = false := by simpa using hw
          rw [hne]
          simp only [Bool.false_eq_true, if_false]
          exact skip (h2 (by cases b <;> cases want <;> first | rfl | exact (hw rfl).elim))
      · rename_i hb
        have hy := gv_ok hs he hb (fun d hd => dstsOk_spec hds hd)
        simp only [Region.wanted, hg, hy]
        have hne : (none == some want) = false := rfl
        rw [hne]
        simp only [Bool.false_eq_true, if_false]
        exact skip h
      · exact h.elim
end

def vwpE (E : Env0) : Code → (Exit → St → Prop) → St → Prop
  | .skip, Q, σ => Q .normal σ
  | .region _ ops false, Q, σ => opsE E ops ops.toList σ (Q .normal)
  | .region _ ops true, Q, σ => qopsE E ops ops.toList σ.env σ.heap fun env => Q .normal ⟨env, σ.heap⟩
  | .seq x y, Q, σ => vwpE E x (fun e σ' => match e with
    | .normal => vwpE E y Q σ'
    | e => Q e σ') σ
  | .cond c x y, Q, σ => match ev σ.env c with
    | .bool b => (b = true → vwpE E x Q σ) ∧ (b = false → vwpE E y Q σ)
    | _ => False
  | .block id c, Q, σ => vwpE E c (fun e σ' => match e with
    | .exit i => if i = id then Q .normal σ' else Q (.exit i) σ'
    | e => Q e σ') σ
  | .loop c, Q, σ => VLoop E c Q σ
  | .exit id, Q, σ => Q (.exit id) σ
  | .ret, Q, σ => Q .ret σ
  | .label _, Q, σ => Q .normal σ
  | .scope c, Q, σ => vwpE E c (fun e σ' => match e with
    | .goto _ => False
    | e => Q e σ') σ
  | _, _, _ => False

section
variable {E : Env0}
theorem vwpE_ok (hT : TOk E.P E.T) (hm : E.P.follows .mixedOrders = true) : ∀ (c : Code) (Q : Exit → St → Prop) (σ : St), codeOk E.nt c = true → vwpE E c Q σ → VW E c Q σ
  | .skip, Q, σ, hc, h => fun a w hr => wp_skip ⟨σ, h, hr⟩
  | .region id ops false, Q, σ, hc, h => fun a w hr => by
    have hds : dstsOk E.nt ops = true := by simpa [codeOk] using hc
    exact wp_region_list (opsE_ok hT hds (Q := fun e a' w' => ∃ σ', Q e σ' ∧ Rel E.C E.B E.nt σ' a' w') (fun σ' a' w' hK hr' => ⟨σ', hK, hr'⟩) _ σ a w (dstsOk_mem hds) h hr)
  | .region id ops true, Q, σ, hc, h => fun a w hr => by
    simp only [codeOk, Bool.and_eq_true, Bool.not_true, Bool.false_or] at hc
    obtain ⟨hds, hB'⟩ := hc
    obtain ⟨gh, Fk, hx, hbs, hd, hs, he⟩ := hr
    refine wp_region_quiet (C := fun w' => RowKit.Below w.heap.size w w') hm hB' ⟨rfl, rfl, rfl, Nat.le_refl _, fun _ _ => rfl⟩ ?_
    refine qopsE_ok hT hds hx (fun env' a' hK h1 h2 h3 w' hw' => ?_) _ _ _ (dstsOk_mem hds) h hs hd he
    obtain ⟨hx', hext⟩ := Rel.below hx hw'
    exact ⟨_, hK, gh, Fk, hx', hbs.trans hext, h2, h1, hext.env h3⟩
  | .seq x y, Q, σ, hc, h => fun a w hr => by
    simp only [codeOk, Bool.and_eq_true] at hc
    refine wp_seq (wp_mono (vwpE_ok hT hm x _ σ hc.1 h a w hr) fun e a' w' ⟨σ', h1, h2⟩ => ?_)
    cases e with
    | normal => exact vwpE_ok hT hm y _ σ' hc.2 h1 a' w' h2
    | _ => exact ⟨σ', h1, h2⟩
  | .cond c x y, Q, σ, hc, h => fun a w hr => by
    simp only [codeOk, Bool.and_eq_true] at hc
    simp only [vwpE] at h
    split at h
    · rename_i b hb
      have hr0 := hr
      obtain ⟨gh, Fk, hx, hbs, hd, hs, he⟩ := hr0
      have hv := he.ev c
      rw [hb] at hv
      refine wp_cond_split hv.bool (fun e => vwpE_ok hT hm x _ σ hc.1 (h.1 e) a w hr) (fun e => vwpE_ok hT hm y _ σ hc.2 (h.2 e) a w hr)
    · exact h.elim
  | .block id c, Q, σ, hc, h => fun a w hr => by
    refine wp_block (wp_mono (vwpE_ok hT hm c _ σ hc h a w hr) fun e a' w' ⟨σ', h1, h2⟩ => ?_)
    cases e with
    | exit i =>
      simp only [Exit.inBlock] at h1 ⊢
      split
      · rename_i e; rw [if_pos e] at h1; exact ⟨σ', h1, h2⟩
      · rename_i e; rw [if_neg e] at h1; exact ⟨σ', h1, h2⟩
    | _ => exact ⟨σ', h1, h2⟩
  | .loop c, Q, σ, hc, h => h hc
  | .exit id, Q, σ, hc, h => fun a w hr => wp_exit ⟨σ, h, hr⟩
  | .ret, Q, σ, hc, h => fun a w hr => wp_ret ⟨σ, h, hr⟩
  | .label l, Q, σ, hc, h => fun a w hr => wp_label ⟨σ, h, hr⟩
  | .scope c, Q, σ, hc, h => fun a w hr => by
    refine wp_scope_straight (wp_mono (vwpE_ok hT hm c _ σ hc h a w hr) fun e a' w' ⟨σ', h1, h2⟩ => ?_)
    cases e with
    | goto l => exact h1.elim
    | _ => exact ⟨σ', h1, h2⟩
  | .rangeFunc .., Q, σ, hc, h => h.elim
  | .goto _, Q, σ, hc, h => h.elim
  | .refuse _, Q, σ, hc, h => h.elim

/-- What is still to be done. -/
inductive Fr where
  | code (c : Code)
  | ops (A : Array Oper) (l : List Oper)
  | qops (A : Array Oper) (l : List Oper)
  | blk (id : Nat)
  | scope
  | stop (R : St → Prop)

def vk (E : Env0) : List Fr → (Exit → St → Prop) → Exit → St → Prop
  | [], Q, e, σ => Q e σ
  | .code c :: ks, Q, e, σ => match e with
    | .normal => vwpE E c (vk E ks Q) σ
    | e => vk E ks Q e σ
  | .ops A l :: ks, Q, e, σ => match e with
    | .normal => opsE E A l σ (vk E ks Q .normal)
    | e => vk E ks Q e σ
  | .qops A l :: ks, Q, e, σ => match e with
    | .normal => qopsE E A l σ.env σ.heap fun env => vk E ks Q .normal ⟨env, σ.heap⟩
    | e => vk E ks Q e σ
  | .blk id :: ks, Q, e, σ => match e with
    | .exit i => if i = id then vk E ks Q .normal σ else vk E ks Q (.exit i) σ
    | e => vk E ks Q e σ
  | .scope :: ks, Q, e, σ => match e with
    | .goto _ => False
    | e => vk E ks Q e σ
  | .stop R :: ks, Q, e, σ => match e with
    | .normal => R σ
    | e => vk E ks Q e σ

def VS0 (E : Env0) (ks : List Fr) (Q : Exit → St → Prop) (e : Exit) (env : List (Nat × VV)) (heap : List Root) : Prop := vk E ks Q e ⟨env, heap⟩
theorem VS_ex : ∃ f : Env0 → List Fr → (Exit → St → Prop) → Exit → List (Nat × VV) → List Root → Prop, f = VS0 := ⟨_, rfl⟩
/-- The walk: what is to be done, from a state. It is kept closed. -/
noncomputable def VS : Env0 → List Fr → (Exit → St → Prop) → Exit → List (Nat × VV) → List Root → Prop := Classical.choose VS_ex
theorem VS_def : VS = VS0 := Classical.choose_spec VS_ex
theorem VS_vk (E : Env0) (ks : List Fr) (Q : Exit → St → Prop) (e : Exit) (env : List (Nat × VV)) (heap : List Root) : VS E ks Q e env heap = vk E ks Q e ⟨env, heap⟩ := by rw [VS_def]; rfl

/-- A call that is to be made. -/
def CallK (E : Env0) (f : Nat) (args : List VV) (dst : Option Nat) (A : Array Oper) (r : List Oper) (ks : List Fr) (Q : Exit → St → Prop) (env : List (Nat × VV)) (heap : List Root) : Prop :=
  VCall E.L E.P E.C f args heap fun c h => VS E (.ops A r :: ks) Q .normal (dput dst c env) h

/-- A call within a region whose order is drawn. -/
def QCallK (E : Env0) (f : Nat) (args : List VV) (dst : Option Nat) (A : Array Oper) (r : List Oper) (ks : List Fr) (Q : Exit → St → Prop) (env : List (Nat × VV)) (heap : List Root) : Prop :=
  ∃ c, QCall E.L E.P E.C f args heap c ∧ VS E (.qops A r :: ks) Q .normal (dput dst c env) heap

/-- A loop that is to be run. -/
def LoopK (E : Env0) (c : Code) (ks : List Fr) (Q : Exit → St → Prop) (env : List (Nat × VV)) (heap : List Root) : Prop := VLoop E c (vk E ks Q) ⟨env, heap⟩

def effS (E : Env0) (A : Array Oper) (r : List Oper) (ks : List Fr) (Q : Exit → St → Prop) (env : List (Nat × VV)) (heap : List Root) (dst : Option Nat) : Eff → Prop
  | .no => False
  | .ok s c h => s ∧ VS E (.ops A r :: ks) Q .normal (dput dst c env) h
  | .call f args => CallK E f args dst A r ks Q env heap

def opS (E : Env0) (A : Array Oper) (r : List Oper) (ks : List Fr) (Q : Exit → St → Prop) (env : List (Nat × VV)) (heap : List Root) (o : Oper) : Option VV → Prop
  | some c => vcond env o ∧ VS E (.ops A r :: ks) Q .normal (dput o.dst c env) heap
  | none => effS E A r ks Q env heap o.dst (effE E.T env heap o)

def effQ (E : Env0) (A : Array Oper) (r : List Oper) (ks : List Fr) (Q : Exit → St → Prop) (env : List (Nat × VV)) (heap : List Root) (dst : Option Nat) : Eff → Prop
  | .call f args => QCallK E f args dst A r ks Q env heap
  | _ => False

def opQ (E : Env0) (A : Array Oper) (r : List Oper) (ks : List Fr) (Q : Exit → St → Prop) (env : List (Nat × VV)) (heap : List Root) (o : Oper) : Option VV → Prop
  | some c => vcond env o ∧ VS E (.qops A r :: ks) Q .normal (dput o.dst c env) heap
  | none => effQ E A r ks Q env heap o.dst (effE E.T env heap o)

/-- Two ways. -/
def ways (b : Bool) (x y : Prop) : Prop := (b = true → x) ∧ (b = false → y)
@[simp ↓] theorem ways_true (x y : Prop) : ways true x y = x := by simp [ways]
@[simp ↓] theorem ways_false (x y : Prop) : ways false x y = y := by simp [ways]
/-- Two ways, told apart by what holds. -/
def gw (p x y : Prop) : Prop := (p → x) ∧ (¬ p → y)
theorem gw.mk {p x y : Prop} (h1 : p → x) (h2 : ¬ p → y) : gw p x y := ⟨h1, h2⟩
@[congr] theorem gw_congr {p p' x x' y y' : Prop} (h1 : p = p') (h2 : p' → x = x') (h3 : ¬ p' → y = y') : gw p x y = gw p' x' y' := by
  subst h1
  unfold gw
  by_cases h : p
  · simp [h, h2 h]
  · simp [h, h3 h]
@[congr] theorem ways_congr {b b' : Bool} {x y : Prop} (h : b = b') : ways b x y = ways b' x y := by rw [h]
@[simp ↓] theorem gw_true (x y : Prop) : gw True x y = x := by simp [gw]
@[simp ↓] theorem gw_false (x y : Prop) : gw False x y = y := by simp [gw]
@[simp] theorem gw_true' (x y : Prop) : gw True x y = x := by simp [gw]
@[simp] theorem gw_false' (x y : Prop) : gw False x y = y := by simp [gw]
@[simp] theorem gw_tt (p : Prop) : gw p True True = True := by simp [gw]
@[simp] theorem gw_t1 (p y : Prop) : gw p True y = (¬ p → y) := by simp [gw]
@[simp] theorem gw_t2 (p x : Prop) : gw p x True = (p → x) := by simp [gw]
@[simp] theorem gw_not (p x y : Prop) : gw (¬ p) x y = gw p y x := by
  by_cases h : p <;> simp [gw, h]
theorem ways_gw (b : Bool) (x y : Prop) : ways b x y = gw (b = true) x y := by cases b <;> simp [ways, gw]
@[simp] theorem ways_decide (p : Prop) [h : Decidable p] (x y : Prop) : ways (decide p) x y = gw p x y := by simp [ways, gw]
@[simp] theorem ways_or (a b : Bool) (x y : Prop) : ways (a || b) x y = gw (a = true ∨ b = true) x y := by rw [ways_gw]; simp
@[simp] theorem ways_and (a b : Bool) (x y : Prop) : ways (a && b) x y = gw (a = true ∧ b = true) x y := by rw [ways_gw]; simp
@[simp] theorem ways_not (b : Bool) (x y : Prop) : ways (!b) x y = ways b y x := by cases b <;> simp [ways]

theorem gd_eq (b want : Bool) (x y : Prop) : ((b = want → x) ∧ (b = !want → y)) = ways (b == want) x y := by cases b <;> cases want <;> simp [ways]

def condS (E : Env0) (x y : Code) (ks : List Fr) (Q : Exit → St → Prop) (env : List (Nat × VV)) (heap : List Root) : VV → Prop
  | .bool b => ways b (VS E (.code x :: ks) Q .normal env heap) (VS E (.code y :: ks) Q .normal env heap)
  | _ => False

/-- A guarded operation. -/
def gd (want : Bool) (x y : Prop) : Option (Option Bool) → Prop
  | some (some b) => ways (b == want) x y
  | some none => y
  | none => False

/-- A guarded operation: data only, so that no way is looked at before it is told. -/
def gdS (E : Env0) (A : Array Oper) (r : List Oper) (ks : List Fr) (Q : Exit → St → Prop) (env : List (Nat × VV)) (heap : List Root) (o : Oper) (want : Bool) : Option (Option Bool) → Prop
  | some (some b) => ways (b == want) (opS E A r ks Q env heap o (vpure E.T env heap o)) (VS E (.ops A r :: ks) Q .normal (dput o.dst (.tup []) env) heap)
  | some none => VS E (.ops A r :: ks) Q .normal (dput o.dst (.tup []) env) heap
  | none => False
def gdQ (E : Env0) (A : Array Oper) (r : List Oper) (ks : List Fr) (Q : Exit → St → Prop) (env : List (Nat × VV)) (heap : List Root) (o : Oper) (want : Bool) : Option (Option Bool) → Prop
  | some (some b) => ways (b == want) (opQ E A r ks Q env heap o (vpure E.T env heap o)) (VS E (.qops A r :: ks) Q .normal (dput o.dst (.tup []) env) heap)
  | some none => VS E (.qops A r :: ks) Q .normal (dput o.dst (.tup []) env) heap
  | none => False

variable {ks : List Fr} {Q : Exit → St → Prop} {env : List (Nat × VV)} {heap : List Root}

theorem gdS_gd {A : Array Oper} {r : List Oper} {o : Oper} {want : Bool} (v : Option (Option Bool)) : gdS E A r ks Q env heap o want v = gd want (opS E A r ks Q env heap o (vpure E.T env heap o)) (VS E (.ops A r :: ks) Q .normal (dput o.dst (.tup []) env) heap) v := by
  match v with
  | some (some b) => rfl
  | some none => rfl
  | none => rfl
theorem gdQ_gd {A : Array Oper} {r : List Oper} {o : Oper} {want : Bool} (v : Option (Option Bool)) : gdQ E A r ks Q env heap o want v = gd want (opQ E A r ks Q env heap o (vpure E.T env heap o)) (VS E (.qops A r :: ks) Q .normal (dput o.dst (.tup []) env) heap) v := by
  match v with
  | some (some b) => rfl
  | some none => rfl
  | none => rfl
@[simp ↓] theorem VS_nil (e : Exit) : VS E [] Q e env heap = Q e ⟨env, heap⟩ := by simp only [VS_vk]; rfl
@[simp ↓] theorem VS_skip : VS E (.code .skip :: ks) Q .normal env heap = VS E ks Q .normal env heap := by simp only [VS_vk]; rfl
@[simp ↓] theorem VS_region (id : Nat) (A : Array Oper) : VS E (.code (.region id A false) :: ks) Q .normal env heap = VS E (.ops A A.toList :: ks) Q .normal env heap := by simp only [VS_vk]; rfl
@[simp ↓] theorem VS_draws (id : Nat) (A : Array Oper) : VS E (.code (.region id A true) :: ks) Q .normal env heap = VS E (.qops A A.toList :: ks) Q .normal env heap := by simp only [VS_vk]; rfl
@[simp ↓] theorem VS_seq (x y : Code) : VS E (.code (.seq x y) :: ks) Q .normal env heap = VS E (.code x :: .code y :: ks) Q .normal env heap := by
  simp only [VS_vk]
  simp only [vk, vwpE]
  try congr 1
@[simp ↓] theorem VS_cond (c : Operand) (x y : Code) : VS E (.code (.cond c x y) :: ks) Q .normal env heap = condS E x y ks Q env heap (ev env c) := by
  unfold condS ways
  simp only [VS_vk, vk, vwpE]
  try rfl
@[simp ↓] theorem VS_block (id : Nat) (c : Code) : VS E (.code (.block id c) :: ks) Q .normal env heap = VS E (.code c :: .blk id :: ks) Q .normal env heap := by
  simp only [VS_vk]
  simp only [vk, vwpE]
  try congr 1
@[simp ↓] theorem VS_loop (c : Code) : VS E (.code (.loop c) :: ks) Q .normal env heap = LoopK E c ks Q env heap := by simp only [VS_vk]; rfl
@[simp ↓] theorem VS_exit (id : Nat) : VS E (.code (.exit id) :: ks) Q .normal env heap = VS E ks Q (.exit id) env heap := by simp only [VS_vk]; rfl
@[simp ↓] theorem VS_ret : VS E (.code .ret :: ks) Q .normal env heap = VS E ks Q .ret env heap := by simp only [VS_vk]; rfl
@[simp ↓] theorem VS_label (l : Nat) : VS E (.code (.label l) :: ks) Q .normal env heap = VS E ks Q .normal env heap := by simp only [VS_vk]; rfl
@[simp ↓] theorem VS_scope (c : Code) : VS E (.code (.scope c) :: ks) Q .normal env heap = VS E (.code c :: .scope :: ks) Q .normal env heap := by
  simp only [VS_vk]
  simp only [vk, vwpE]
  try congr 1
@[simp ↓] theorem VS_code_exit (c : Code) (i : Nat) : VS E (.code c :: ks) Q (.exit i) env heap = VS E ks Q (.exit i) env heap := by simp only [VS_vk]; rfl
@[simp ↓] theorem VS_code_ret (c : Code) : VS E (.code c :: ks) Q .ret env heap = VS E ks Q .ret env heap := by simp only [VS_vk]; rfl
@[simp ↓] theorem VS_blk_normal (id : Nat) : VS E (.blk id :: ks) Q .normal env heap = VS E ks Q .normal env heap := by simp only [VS_vk]; rfl
@[simp ↓] theorem VS_blk_ret (id : Nat) : VS E (.blk id :: ks) Q .ret env heap = VS E ks Q .ret env heap := by simp only [VS_vk]; rfl
@[simp ↓] theorem VS_blk_exit (id i : Nat) : VS E (.blk id :: ks) Q (.exit i) env heap = if i = id then VS E ks Q .normal env heap else VS E ks Q (.exit i) env heap := by simp only [VS_vk]; rfl
@[simp ↓] theorem VS_scope_normal : VS E (.scope :: ks) Q .normal env heap = VS E ks Q .normal env heap := by simp only [VS_vk]; rfl
@[simp ↓] theorem VS_scope_ret : VS E (.scope :: ks) Q .ret env heap = VS E ks Q .ret env heap := by simp only [VS_vk]; rfl
@[simp ↓] theorem VS_scope_exit (i : Nat) : VS E (.scope :: ks) Q (.exit i) env heap = VS E ks Q (.exit i) env heap := by simp only [VS_vk]; rfl
@[simp ↓] theorem VS_stop (R : St → Prop) : VS E (.stop R :: ks) Q .normal env heap = R ⟨env, heap⟩ := by simp only [VS_vk]; rfl
@[simp ↓] theorem VS_stop_ret (R : St → Prop) : VS E (.stop R :: ks) Q .ret env heap = VS E ks Q .ret env heap := by simp only [VS_vk]; rfl
@[simp ↓] theorem VS_stop_exit (R : St → Prop) (i : Nat) : VS E (.stop R :: ks) Q (.exit i) env heap = VS E ks Q (.exit i) env heap := by simp only [VS_vk]; rfl
@[simp ↓] theorem VS_ops_nil (A : Array Oper) : VS E (.ops A [] :: ks) Q .normal env heap = VS E ks Q .normal env heap := by simp only [VS_vk]; rfl
@[simp ↓] theorem VS_qops_nil (A : Array Oper) : VS E (.qops A [] :: ks) Q .normal env heap = VS E ks Q .normal env heap := by simp only [VS_vk]; rfl
theorem opS_eq (A : Array Oper) (r : List Oper) (o : Oper) : opE E o ⟨env, heap⟩ (fun c h => opsE E A r ⟨dput o.dst c env, h⟩ (vk E ks Q .normal)) = opS E A r ks Q env heap o (vpure E.T env heap o) := by
  unfold opE
  dsimp only
  generalize vpure E.T env heap o = v
  cases v with
  | some c => simp only [opS, VS_vk, vk]
  | none =>
    unfold opS
    dsimp only
    generalize effE E.T env heap o = e
    cases e <;> simp only [Eff.to, effS, CallK, VS_vk, vk]
@[simp ↓] theorem VS_op (A : Array Oper) (r : List Oper) (d : Option Nat) (op : Op) (t : Nat) (p : String) (af : Array Edge) :
    VS E (.ops A (⟨d, op, t, p, af, none⟩ :: r) :: ks) Q .normal env heap = opS E A r ks Q env heap ⟨d, op, t, p, af, none⟩ (vpure E.T env heap ⟨d, op, t, p, af, none⟩) := by simp only [VS_vk, ← opS_eq]; rfl
@[simp ↓] theorem VS_opg (A : Array Oper) (r : List Oper) (d : Option Nat) (op : Op) (t : Nat) (p : String) (af : Array Edge) (j : Nat) (want : Bool) :
    VS E (.ops A (⟨d, op, t, p, af, some (j, want)⟩ :: r) :: ks) Q .normal env heap =
      gdS E A r ks Q env heap ⟨d, op, t, p, af, some (j, want)⟩ want (gv A env j) := by
  rw [gdS_gd]
  rw [← opS_eq]
  unfold gd
  simp only [VS_vk]
  simp only [vk, opsE]
  split
  · exact gd_eq _ _ _ _
  · rfl
  · rfl
theorem effQ_store {A : Array Oper} {r : List Oper} {d : Option Nat} (i : TI) (p c : VV) : effQ E A r ks Q env heap d (storeE i heap p c) = False := by
  unfold storeE
  repeat' split
  all_goals rfl
theorem effQ_app {A : Array Oper} {r : List Oper} {d : Option Nat} (i : TI) (p c : VV) : effQ E A r ks Q env heap d (appE i heap p c) = False := by
  unfold appE
  repeat' split
  all_goals rfl
theorem opQ_eq (A : Array Oper) (r : List Oper) (o : Oper) : qop E o env heap (fun env' => qopsE E A r env' heap fun env => vk E ks Q .normal ⟨env, heap⟩) = opQ E A r ks Q env heap o (vpure E.T env heap o) := by
  unfold qop
  simp only [dstPut_dput]
  generalize vpure E.T env heap o = v
  cases v with
  | some c => simp only [opQ, VS_vk, vk]
  | none =>
    unfold opQ
    dsimp only
    unfold effE
    split
    · rename_i cl hop
      simp only [hop]
      split
      · rename_i fx hcl
        simp only [hcl]
        split
        · rename_i f caps hf
          simp only [hf, effQ, QCallK, VS_vk, vk]
        · rename_i hf
          split
          · rename_i f caps hf'
            exact (hf f caps hf').elim
          · rfl
      · rename_i hcl
        split
        all_goals (repeat' split)
        all_goals first | rfl | exact (effQ_app _ _ _).symm | skip
        all_goals exact (hcl _ ‹cl.callee = Callee.value _›).elim
    · rename_i hop
      split
      all_goals (repeat' split)
      all_goals first | rfl | exact (effQ_store _ _ _).symm | exact (hop _ ‹o.op = Op.call _›).elim
@[simp ↓] theorem VS_qop (A : Array Oper) (r : List Oper) (d : Option Nat) (op : Op) (t : Nat) (p : String) (af : Array Edge) :
    VS E (.qops A (⟨d, op, t, p, af, none⟩ :: r) :: ks) Q .normal env heap = opQ E A r ks Q env heap ⟨d, op, t, p, af, none⟩ (vpure E.T env heap ⟨d, op, t, p, af, none⟩) := by simp only [VS_vk, ← opQ_eq]; rfl
@[simp ↓] theorem VS_qopg (A : Array Oper) (r : List Oper) (d : Option Nat) (op : Op) (t : Nat) (p : String) (af : Array Edge) (j : Nat) (want : Bool) :
    VS E (.qops A (⟨d, op, t, p, af, some (j, want)⟩ :: r) :: ks) Q .normal env heap =
      gdQ E A r ks Q env heap ⟨d, op, t, p, af, some (j, want)⟩ want (gv A env j) := by
  rw [gdQ_gd]
  rw [← opQ_eq]
  unfold gd
  simp only [VS_vk]
  simp only [vk, qopsE]
  generalize gv A env j = v
  match v with
  | some (some b) => exact gd_eq _ _ _ _
  | some none => rfl
  | none => rfl
end
end Go.Proofs.YtjldkpggcjolcaaV
