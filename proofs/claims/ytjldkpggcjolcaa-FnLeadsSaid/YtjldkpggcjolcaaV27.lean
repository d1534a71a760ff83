/- Less may be known of a state: loops. Conditions: those of each theorem. -/
import Derived.Test.YtjldkpggcjolcaaV26
namespace Go.Proofs.YtjldkpggcjolcaaV
set_option linter.unusedVariables false
set_option linter.unusedSimpArgs false

mutual
def refsLt (n : Nat) : VV → Bool
  | .rs k _ _ _ => Nat.blt k n
  | .ptr k _ _ _ => Nat.blt k n
  | .sl (some (k, _)) _ _ => Nat.blt k n
  | .rp (some (k, _)) _ _ => Nat.blt k n
  | .agg cs => refsLts n cs
  | .tup cs => refsLts n cs
  | .fn _ cs => refsLts n cs
  | _ => true
def refsLts (n : Nat) : List VV → Bool
  | [] => true
  | c :: cs => refsLt n c && refsLts n cs
end

def envLe (env : List (Nat × VV)) : List (Nat × VV) → Prop
  | [] => True
  | (k, c) :: r => look env k = c ∧ envLe env r

def envRefs (n : Nat) : List (Nat × VV) → Bool
  | [] => true
  | (_, c) :: r => refsLt n c && envRefs n r

def heapRefs (n : Nat) : List Root → Bool
  | [] => true
  | .box cells :: r => refsLts n cells && heapRefs n r
  | _ :: r => heapRefs n r

def hLe : List Root → List Root → Prop
  | _, [] => True
  | [], _ :: _ => False
  | R :: rs, R' :: rs' => (R' = Root.dead ∨ R = R') ∧ hLe rs rs'

/-- Less is known. -/
def stLe (σ σ' : St) : Prop :=
  envLe σ.env σ'.env ∧ hLe σ.heap σ'.heap ∧ envRefs σ'.heap.length σ'.env = true ∧ heapRefs σ'.heap.length σ'.heap = true

section
variable {C : Cx} {roots roots' : List Root} {gh gh' : Nat → Gh} {Fk Fk' : Nat → List Nat} {X X' : List Nat} {w w' : World}

theorem hLe_get : ∀ {roots roots' : List Root}, hLe roots roots' → ∀ (k : Nat) (R' : Root), roots'[k]? = some R' → R' = Root.dead ∨ roots[k]? = some R'
  | _, [], _, k, R', h => by simp at h
  | [], _ :: _, h, _, _, _ => h.elim
  | R :: rs, R0 :: rs', h, k, R', hk => by
    cases k with
    | zero =>
      simp at hk; subst hk
      rcases h.1 with h1 | h1
      · exact .inl h1
      · subst h1; exact .inr rfl
    | succ k => exact hLe_get h.2 k R' (by simpa using hk)

theorem VRs.weak {ok ok' : Option (Nat × Nat) → Nat → Prop} {cs : List VV} {vs : List Value} (h : VRs ok w roots gh cs vs) (hl : hLe roots roots') (hok : ∀ tag b, tagOk roots' tag = true → ok tag b → ok' tag b) :
    refsLts roots'.length cs = true → VRs ok' w roots' gh cs vs := by
  have hge : ∀ {k g}, Nat.blt k roots'.length = true → genLe roots k g → genLe roots' k g := fun hk hg => ⟨Nat.blt_eq ▸ hk, fun g' own sz rows hr => by
    rcases hLe_get hl _ _ hr with e | e
    · cases e
    · exact hg.2 _ _ _ _ e⟩
  have htag : ∀ {tag}, tagOk roots' tag = true → tagOk roots tag = true := by
    intro tag ht
    cases tag with
    | none => rfl
    | some x =>
      obtain ⟨k, g⟩ := x
      simp only [tagOk] at ht ⊢
      split at ht
      · rename_i g' own sz rows hr
        rcases hLe_get hl _ _ hr with e | e
        · cases e
        · simp only [e]; exact ht
      · cases ht
  induction h with
  | nil => intro _; exact .nil
  | undef v _ ih => intro hr; simp only [refsLts, Bool.and_eq_true] at hr; exact .undef v (ih hr.2)
  | sc h _ ih => intro hr; simp only [refsLts, Bool.and_eq_true] at hr; exact .sc h (ih hr.2)
  | sl tag sz rows v ho hk h _ ih =>
    intro hr; simp only [refsLts, Bool.and_eq_true] at hr
    exact .sl tag sz rows v ho (fun k g e => by subst e; exact hge (by simpa [refsLt] using hr.1) (hk k g rfl)) (fun ht => (h (htag ht)).mono fun b hb => ⟨hok tag b ht hb, rfl⟩) (ih hr.2)
  | rs k g lo n v ho hk h _ ih =>
    intro hr; simp only [refsLts, Bool.and_eq_true] at hr
    refine .rs k g lo n v ho (hge (by simpa [refsLt] using hr.1) hk) (fun own sz rows hR => ?_) (ih hr.2)
    rcases hLe_get hl _ _ hR with e | e
    · cases e
    · exact h own sz rows e
  | ptr k g i off v ho hk hbx har _ ih =>
    intro hr; simp only [refsLts, Bool.and_eq_true] at hr
    refine .ptr k g i off v ho (hge (by simpa [refsLt] using hr.1) hk) (fun cells hR => ?_) (fun own sz rows hR => ?_) (ih hr.2)
    · rcases hLe_get hl _ _ hR with e | e
      · cases e
      · exact hbx cells e
    · rcases hLe_get hl _ _ hR with e | e
      · cases e
      · exact har own sz rows e
  | rp tag row off v ho hk h _ ih =>
    intro hr; simp only [refsLts, Bool.and_eq_true] at hr
    refine .rp tag row off v ho (fun k g e => by subst e; exact hge (by simpa [refsLt] using hr.1) (hk k g rfl)) (fun ht => ?_) (ih hr.2)
    obtain ⟨b, o, cells, hv, hok', hro, hcl⟩ := h (htag ht)
    exact ⟨b, o, cells, hv, hok _ b ht hok', hro.mono fun b hb => ⟨hok tag b ht hb, rfl⟩, hcl⟩
  | agg ds us _ h1 _ ih1 ih2 => intro hr; simp only [refsLts, refsLt, Bool.and_eq_true] at hr; exact .agg ds us (ih1 hr.1) h1 (ih2 hr.2)
  | tup ds us _ _ ih1 ih2 => intro hr; simp only [refsLts, refsLt, Bool.and_eq_true] at hr; exact .tup ds us (ih1 hr.1) (ih2 hr.2)
  | fn f ds us _ _ ih1 ih2 => intro hr; simp only [refsLts, refsLt, Bool.and_eq_true] at hr; exact .fn f ds us (ih1 hr.1) (ih2 hr.2)

def deadF (roots : List Root) (Fk : Nat → List Nat) (k : Nat) : List Nat :=
  match roots[k]? with
  | some .dead => []
  | _ => Fk k

theorem deadF_sub {k b : Nat} (h : b ∈ deadF roots Fk k) : b ∈ Fk k := by
  unfold deadF at h
  split at h
  · cases h
  · exact h

theorem deadF_live {k : Nat} {R : Root} (h : roots[k]? = some R) (hn : R ≠ Root.dead) : deadF roots Fk k = Fk k := by
  unfold deadF
  split
  · rename_i e; rw [h] at e; cases e; exact absurd rfl hn
  · rfl

theorem HX.weak (hx : HX C roots gh Fk X w) (hl : hLe roots roots') (hr : heapRefs roots'.length roots' = true) :
    HX C roots' gh (deadF roots' Fk) X w ∧ ∀ tag b, tagOk roots' tag = true → okF w roots Fk X tag b → okF w roots' (deadF roots' Fk) X tag b := by
  have hlive : ∀ (k : Nat) (R : Root), roots'[k]? = some R → R ≠ Root.dead → roots[k]? = some R := fun k R hR hn => (hLe_get hl k R hR).resolve_left hn
  have hok : ∀ tag b, tagOk roots' tag = true → okF w roots Fk X tag b → okF w roots' (deadF roots' Fk) X tag b := by
    intro tag b ht hb
    cases tag with
    | none =>
      refine ⟨hb.1, hb.2.1, fun k R hR hm => ?_⟩
      have hm' := deadF_sub hm
      by_cases hn : R = Root.dead
      · subst hn; simp [deadF, hR] at hm
      · exact hb.2.2 k R (hlive k R hR hn) hm'
    | some x =>
      obtain ⟨k, g⟩ := x
      simp only [tagOk] at ht
      split at ht
      · rename_i g' own sz rows hR
        refine ⟨hb.1, ?_⟩
        rw [deadF_live hR (fun e => by cases e)]; exact hb.2
      · cases ht
  have hbox : ∀ (k : Nat) (cells : List VV), roots'[k]? = some (Root.box cells) → refsLts roots'.length cells = true := by
    have : ∀ (n : Nat) (l : List Root), heapRefs n l = true → ∀ (k : Nat) (cells : List VV), l[k]? = some (Root.box cells) → refsLts n cells = true := by
      intro n l
      induction l with
      | nil => intro _ k cells h; simp at h
      | cons R l ih =>
        intro h k cells hk
        have h2 : heapRefs n l = true := by
          cases R <;> simp only [heapRefs, Bool.and_eq_true] at h <;> first | exact h | exact h.2
        cases k with
        | zero => simp at hk; subst hk; simp only [heapRefs, Bool.and_eq_true] at h; exact h.1
        | succ k => exact ih h2 k cells (by simpa using hk)
    exact this _ _ hr
  refine ⟨⟨hx.kept, fun k R hR => ?_, fun k R hR => ?_, fun k l R S hR hS hkl b hb hb' => ?_, fun k R hR b hb => ?_, hx.heldN, fun k R hR b hb => ?_, hx.heldM⟩, hok⟩
  · by_cases hn : R = Root.dead
    · subst hn
      have : deadF roots' Fk k = [] := by simp [deadF, hR]
      rw [this]; exact .dead
    · rw [deadF_live hR hn]
      have h1 := hx.one k R (hlive k R hR hn)
      generalize Fk k = F at h1
      cases h1 with
      | dead => exact absurd rfl hn
      | frame snap F h => exact .frame snap F h
      | box cells cur T fr hb hf h h1 => exact .box cells cur T fr hb hf (h.weak hl hok (hbox k cells hR)) h1
      | none0 g own hz hc => exact .none0 g own hz hc
      | own g rows cur e fr F hz hb hf hs hn' hm hsz h => exact .own g rows cur e fr F hz hb hf hs hn' hm hsz h
      | shared g rows cur e fr hz hb hf hs hn' hm hsz h => exact .shared g rows cur e fr hz hb hf hs hn' hm hsz (h.mono fun b hb => ⟨hok none b rfl hb, rfl⟩)
  · by_cases hn : R = Root.dead
    · subst hn
      have : deadF roots' Fk k = [] := by simp [deadF, hR]
      rw [this]; exact .nil
    · rw [deadF_live hR hn]; exact hx.nodup k R (hlive k R hR hn)
  · by_cases hn : R = Root.dead
    · subst hn; simp [deadF, hR] at hb
    · by_cases hm : S = Root.dead
      · subst hm; simp [deadF, hS] at hb'
      · exact hx.apart k l R S (hlive k R hR hn) (hlive l S hS hm) hkl b (deadF_sub hb) (deadF_sub hb')
  · by_cases hn : R = Root.dead
    · subst hn; simp [deadF, hR] at hb
    · exact hx.mine k R (hlive k R hR hn) b (deadF_sub hb)
  · by_cases hn : R = Root.dead
    · subst hn; simp [deadF, hR] at hb
    · exact hx.heldA k R (hlive k R hR hn) b (deadF_sub hb)

theorem envLe_look {env : List (Nat × VV)} : ∀ {env' : List (Nat × VV)}, envLe env env' → ∀ t, look env' t = look env t ∨ look env' t = .undef
  | [], _, t => .inr rfl
  | (k, c) :: r, h, t => by
    simp only [look]
    split
    · rename_i e; subst e; exact .inl h.1.symm
    · exact envLe_look h.2 t

theorem envRefs_look {n : Nat} : ∀ {env : List (Nat × VV)}, envRefs n env = true → ∀ t, refsLt n (look env t) = true
  | [], _, t => by simp [look, refsLt]
  | (k, c) :: r, h, t => by
    simp only [envRefs, Bool.and_eq_true] at h
    simp only [look]
    split
    · exact h.1
    · exact envRefs_look h.2 t

theorem Ext.weak {B : Bs} (h : Ext B.r B.g B.F [] B.w roots gh Fk X w) (hx : HX C roots gh Fk X w) (hl : hLe roots roots') (hr : heapRefs roots'.length roots' = true) (hn : B.r.length ≤ roots'.length) :
    Ext B.r B.g B.F [] B.w roots' gh (deadF roots' Fk) X w := by
  obtain ⟨_, hok⟩ := hx.weak hl hr
  have hlive : ∀ (k : Nat) (R : Root), roots'[k]? = some R → R ≠ Root.dead → roots[k]? = some R := fun k R hR hn => (hLe_get hl k R hR).resolve_left hn
  refine ⟨⟨hn, fun k cells hk hR => h.compat.box k cells hk (hlive k _ hR (fun e => by cases e)), fun k g own sz rows hk hR => h.compat.arr k g own sz rows hk (hlive k _ hR (fun e => by cases e))⟩, fun tag t1 t0 b hb => ?_⟩
  have t2 : tagOk roots tag = true := by
    cases tag with
    | none => rfl
    | some x =>
      obtain ⟨k, g⟩ := x
      simp only [tagOk] at t1 ⊢
      split at t1
      · rename_i g' own sz rows hR
        simp only [hlive k _ hR (fun e => by cases e)]; exact t1
      · cases t1
  obtain ⟨a1, a2⟩ := h.keep tag t2 t0 b hb
  exact ⟨hok tag b t1 a1, a2⟩

theorem Rel.le {C : Cx} {B : Bs} {nt : Nat} {σ σ' : St} {a : Act} {w : World} (hn : B.r.length ≤ σ'.heap.length) (h : stLe σ σ') (hr : Rel C B nt σ a w) : Rel C B nt σ' a w := by
  obtain ⟨gh, Fk, hx, hbs, hd, hs, he⟩ := hr
  obtain ⟨h1, h2, h3, h4⟩ := h
  obtain ⟨hx', hok⟩ := hx.weak h2 h4
  refine ⟨gh, _, hx', hbs.weak hx h2 h4 hn, hd, hs, fun t => ?_⟩
  rcases envLe_look h1 t with e | e
  · refine VRs.weak (by rw [e]; exact he t) h2 hok ?_
    simp [refsLts, envRefs_look h3 t]
  · rw [e]; exact .undef _ .nil

/-- A loop, its rounds' states in a row. -/
theorem VLoop.rounds {E : Env0} {Q : Exit → St → Prop} {σ : St} {c : Code} (hT : TOk E.P E.T) (hm : E.P.follows .mixedOrders = true) {ι : Type} (S : ι → St) (μ : ι → Nat) (i0 : ι) (hn : ∀ i, Nat.ble E.B.r.length (S i).heap.length = true) (h0 : stLe σ (S i0))
    (round : ∀ i, vwp E c (fun e σ' => match e with
      | .normal => ∃ j, stLe σ' (S j) ∧ μ j < μ i
      | e => Q e σ') (S i)) : VLoop E c Q σ := by
  intro hc
  exact VW.loop hT hm hc stLe S (fun σ i h a w hr => hr.le (Nat.le_of_ble_eq_true (hn i)) h) μ i0 h0 round
end
end Go.Proofs.YtjldkpggcjolcaaV
