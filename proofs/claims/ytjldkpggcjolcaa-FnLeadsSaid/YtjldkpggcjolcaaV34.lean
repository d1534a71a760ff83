/- Loops over lists. Conditions: the table of types fits the program. -/
import Derived.Test.YtjldkpggcjolcaaV33
namespace Go.Proofs.YtjldkpggcjolcaaV
set_option linter.unusedVariables false
set_option linter.unusedSimpArgs false

attribute [simp] byteOf1
theorem wrapu8 {n : Int} (h1 : 0 ≤ n) (h2 : n ≤ 255) : IntKind.u8.wrap n = n := by
  simp [IntKind.wrap, IntKind.signed, IntKind.bits]
  omega

theorem get_set {α : Type} {l : List α} {k : Nat} {x y : α} (h : l[k]? = some y) : (l.set k x)[k]? = some x := by
  obtain ⟨h1, _⟩ := List.getElem?_eq_some_iff.1 h
  simp [h1]
theorem set_same {α : Type} {l : List α} {k : Nat} {y : α} (h : l[k]? = some y) : l.set k y = l := by
  obtain ⟨h1, rfl⟩ := List.getElem?_eq_some_iff.1 h
  simp
theorem lt_get {α : Type} {l : List α} {k : Nat} {y : α} (h : l[k]? = some y) : k < l.length := (List.getElem?_eq_some_iff.1 h).1
@[simp] theorem heapRefs_set {n g sz : Nat} {own : Bool} {rows : List (List VV)} : ∀ {roots : List Root}, heapRefs n roots = true → ∀ {k : Nat}, heapRefs n (roots.set k (.arr g own sz rows)) = true
  | [], h, k => by simp [heapRefs]
  | R :: rs, h, 0 => by cases R <;> simp_all [heapRefs]
  | R :: rs, h, k + 1 => by
    have := @heapRefs_set n g sz own rows rs
    cases R <;> simp_all [heapRefs]

theorem argVs_sc (roots : List Root) : ∀ {args : List VV}, args.all isSc = true → argVs roots args args
  | [], _ => trivial
  | c :: cs, h => by
    simp only [List.all_cons, Bool.and_eq_true] at h
    refine ⟨?_, argVs_sc roots h.2⟩
    cases c <;> simp_all [argV, argC, isSc]

section
variable {E : Env0} {Q : Exit → St → Prop} {ks : List Fr} {env : List (Nat × VV)} {heap : List Root}

theorem CallK.pureS {f : Nat} {args : List VV} {res : VV} {dst : Option Nat} {A : Array Oper} {r : List Oper} (h : PC E.L E.P f args res) (ha : args.all isSc = true) (hr : YtjldkpggcjolcaaV.noSl res = true ∨ args.all noRef = true)
    (hK : VS E (.ops A r :: ks) Q .normal (dput dst (adopt heap res).1 env) (adopt heap res).2) : CallK E f args dst A r ks Q env heap := CallK.pure h (argVs_sc heap ha) hr hK

theorem QCallK.pureS {f : Nat} {args : List VV} {c : VV} {v0 : Value} {dst : Option Nat} {A : Array Oper} {r : List Oper} (h : PC E.L E.P f args c) (ha : args.all isSc = true) (hs : Sc c v0) (hc : c ≠ .err)
    (hK : VS E (.qops A r :: ks) Q .normal (dput dst c env) heap) : QCallK E f args dst A r ks Q env heap := QCallK.pure h (argVs_sc heap ha) hs hc hK

theorem qop_mono {o : Oper} {K K' : List (Nat × VV) → Prop} (h : qop E o env heap K) (hk : ∀ e, K e → K' e) : qop E o env heap K' := by
  unfold qop at h ⊢
  simp only [dstPut_dput] at h ⊢
  split at h
  · exact ⟨h.1, hk _ h.2⟩
  · split at h
    · split at h
      · split at h
        · obtain ⟨c, h1, h2⟩ := h
          exact ⟨c, h1, hk _ h2⟩
        · exact h.elim
      · exact h.elim
    · exact h.elim

theorem qops_mono {A : Array Oper} {K K' : List (Nat × VV) → Prop} (hk : ∀ e, K e → K' e) : ∀ (l : List Oper) (env : List (Nat × VV)), qopsE E A l env heap K → qopsE E A l env heap K'
  | [], env, h => hk _ h
  | o :: r, env, h => by
    simp only [qopsE] at h ⊢
    split at h
    · exact qop_mono h fun e he => qops_mono hk r e he
    · split at h
      · exact ⟨fun e => qop_mono (h.1 e) fun e he => qops_mono hk r e he, fun e => qops_mono hk r _ (h.2 e)⟩
      · exact qops_mono hk r _ h
      · exact h.elim

theorem opsE_mono {A : Array Oper} {K K' : St → Prop} (hk : ∀ e, K e → K' e) : ∀ (l : List Oper) (σ : St), opsE E A l σ K → opsE E A l σ K'
  | [], env, h => hk _ h
  | o :: r, env, h => by
    simp only [opsE] at h ⊢
    split at h
    · exact Eff.to_imp h fun c r' he => opsE_mono hk r _ he
    · split at h
      · exact ⟨fun e => Eff.to_imp (h.1 e) fun c r' he => opsE_mono hk r _ he, fun e => opsE_mono hk r _ (h.2 e)⟩
      · exact opsE_mono hk r _ h
      · exact h.elim

theorem vwpE_mono : ∀ (c : Code) {Q Q' : Exit → St → Prop} (hk : ∀ e σ, Q e σ → Q' e σ) (σ : St), vwpE E c Q σ → vwpE E c Q' σ
  | .skip, _, _, hk, σ, h => hk _ _ h
  | .region id ops false, _, _, hk, σ, h => opsE_mono (fun σ h => hk _ σ h) _ _ h
  | .region id ops true, _, _, hk, σ, h => qops_mono (fun e h => hk _ _ h) _ _ h
  | .seq x y, _, _, hk, σ, h => vwpE_mono x (fun e σ h => by
      cases e with
      | normal => exact vwpE_mono y hk σ h
      | _ => exact hk _ _ h) σ h
  | .cond c x y, _, _, hk, σ, h => by
      simp only [vwpE] at h ⊢
      split at h
      · exact ⟨fun e => vwpE_mono x hk σ (h.1 e), fun e => vwpE_mono y hk σ (h.2 e)⟩
      · exact h.elim
  | .block id c, _, _, hk, σ, h => vwpE_mono c (fun e σ h => by
      cases e with
      | exit i =>
        simp only at h ⊢
        split
        · rename_i e; rw [if_pos e] at h; exact hk _ _ h
        · rename_i e; rw [if_neg e] at h; exact hk _ _ h
      | _ => exact hk _ _ h) σ h
  | .loop c, _, _, hk, σ, h => fun hc => VW.mono (h hc) hk
  | .exit id, _, _, hk, σ, h => hk _ _ h
  | .ret, _, _, hk, σ, h => hk _ _ h
  | .label l, _, _, hk, σ, h => hk _ _ h
  | .scope c, _, _, hk, σ, h => vwpE_mono c (fun e σ h => by
      cases e with
      | goto l => exact h.elim
      | _ => exact hk _ _ h) σ h
  | .rangeFunc .., _, _, hk, σ, h => h.elim
  | .goto _, _, _, hk, σ, h => h.elim
  | .refuse _, _, _, hk, σ, h => h.elim

theorem vk_stop_mono {c : Code} {R R' : St → Prop} (hk : ∀ σ, R σ → R' σ) {σ : St} (h : vk E (.code c :: .stop R :: ks) Q .normal σ) : vk E (.code c :: .stop R' :: ks) Q .normal σ := by
  simp only [vk] at h ⊢
  refine vwpE_mono c (fun e σ h => ?_) σ h
  cases e with
  | normal => exact hk _ h
  | _ => exact h

/-- A loop over a list, from its head on: what is done, what is left. -/
theorem LoopK.list {c : Code} {α β : Type} (hT : TOk E.P E.T) (hm : E.P.follows .mixedOrders = true) (l : List α) (S : List α → β → St) (I : List α → List α → β → Prop) (b0 : β)
    (hn : ∀ pre b, Nat.ble E.B.r.length (S pre b).heap.length = true) (h0 : stLe ⟨env, heap⟩ (S [] b0)) (hI : I [] l b0)
    (step : ∀ pre x suf b, l = pre ++ x :: suf → I pre (x :: suf) b → VS E (.code c :: .stop (fun σ' => ∃ b', stLe σ' (S (pre ++ [x]) b') ∧ I (pre ++ [x]) suf b') :: ks) Q .normal (S pre b).env (S pre b).heap)
    (last : ∀ b, I l [] b → VS E (.code c :: .stop (fun _ => False) :: ks) Q .normal (S l b).env (S l b).heap) : LoopK E c ks Q env heap := by
  refine LoopK.rounds hT hm (ι := {p : (List α × List α) × β // p.1.1 ++ p.1.2 = l ∧ I p.1.1 p.1.2 p.2}) (fun p => S p.1.1.1 p.1.2) (fun p => p.1.1.2.length) ⟨(([], l), b0), rfl, hI⟩ (fun p => hn _ _) h0 ?_
  rintro ⟨⟨⟨pre, suf⟩, b⟩, hp, hi⟩
  simp only at hp hi ⊢
  cases suf with
  | nil =>
    simp at hp; subst hp
    have h := last b hi
    rw [VS_vk] at h ⊢
    exact vk_stop_mono (fun σ h => h.elim) h
  | cons x suf =>
    have h := step pre x suf b hp.symm hi
    rw [VS_vk] at h ⊢
    refine vk_stop_mono (fun σ h => ?_) h
    obtain ⟨b', h1, h2⟩ := h
    exact ⟨⟨((pre ++ [x], suf), b'), by simpa using hp, h2⟩, h1, by simp⟩
end
end Go.Proofs.YtjldkpggcjolcaaV
