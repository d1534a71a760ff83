/- A call, walked where it stands. Conditions: the table of types fits the program. -/
import Derived.Test.YtjldkpggcjolcaaV28
namespace Go.Proofs.YtjldkpggcjolcaaV
set_option linter.unusedVariables false
set_option linter.unusedSimpArgs false

@[simp] def resV : List VV → VV
  | [c] => c
  | cs => .tup cs

@[simp] def postK (T : Tbl) (rs : List ResultVar) (K : VV → List Root → Prop) (e : Exit) (σ : St) : Prop :=
  match e with
  | .normal | .ret => match rvVs T σ rs with
    | some cs => K (resV cs) σ.heap
    | none => False
  | _ => False

theorem VCall.inlineW {L : Low} {P : Program} {T : Tbl} {C : Cx} {f nt : Nat} {fn : Func} {c : Code} {rs : List ResultVar} {args : List VV} {roots : List Root} {K : VV → List Root → Prop} (hT : TOk P T) (hm : P.follows .mixedOrders = true)
    (hf : P.funcs[f]? = some fn) (hc : fn.body = some c) (hnt : fn.ntmps = nt) (hn : (fn.name == "runtime.NumGoroutine") = false) (hrs : fn.results = rs.toArray) (hlen0 : Nat.ble args.length nt = true) (hcode : codeOk nt c = true)
    (h : ∀ g F w hG, VW ⟨P, T, C, ⟨roots, g, F, w⟩, nt, L, hG⟩ c (postK T rs K) ⟨initEnv 0 args, roots⟩) : VCall L P C f args roots K := by
  subst hnt
  have hlen := Nat.le_of_ble_eq_true hlen0
  refine ⟨⟨fn, hf, hn, by rw [hc]; rfl⟩, fun hG gh Fk w vs hx hv => ?_⟩
  refine calls_of_wp hf hc ?_
  have hlen' : vs.length = args.length := hv.length
  have hrel : Rel C ⟨roots, gh, Fk, w⟩ fn.ntmps ⟨initEnv 0 args, roots⟩ { tmps := vs.toArray ++ Array.replicate (fn.ntmps - vs.toArray.size) undef, defers := [] } w := by
    refine ⟨gh, Fk, hx, .refl, rfl, by simp; omega, fun t => ?_⟩
    simp only [look_init]
    rw [if_pos (Nat.zero_le _), Nat.sub_zero]
    by_cases ht : t < args.length
    · obtain ⟨v, h1, h2⟩ := hv.get t args[t] (List.getElem?_eq_getElem ht)
      have : (vs.toArray ++ Array.replicate (fn.ntmps - vs.toArray.size) undef).getD t undef = v := by
        have hlt : t < vs.length := by omega
        rw [Array.getD_eq_getD_getElem?, Array.getElem?_append_left (by simpa using hlt)]
        simp [h1]
      rw [this, List.getElem?_eq_getElem ht]
      exact h2
    · rw [List.getElem?_eq_none (by omega)]
      exact .undef _ .nil
  refine wp_mono (h _ _ _ hG _ _ hrel) fun e a' w' ⟨σ', hp, gh', Fk', hx', hext, hd, hs, he⟩ => ?_
  have done : (match rvVs T σ' rs with
    | some cs => K (resV cs) σ'.heap
    | none => False) → ∃ v, (results fn a'.tmps).run P w' = .ok v w' ∧ ∃ v' c roots' gh' Fk', Ending.returned v = .returned v' ∧ K c roots' ∧ HX C roots' gh' Fk' [] w' ∧ Ext roots gh Fk [] w roots' gh' Fk' [] w' ∧ VRs (okF w' roots' Fk' []) w' roots' gh' [c] [v'] := by
    intro hK
    split at hK
    · rename_i cs hc
      obtain ⟨us, hv', hrun⟩ := run_results hT hrs hx' he hc
      refine ⟨_, hrun, _, _, _, gh', Fk', rfl, hK, hx', hext, ?_⟩
      match cs, us, hv' with
      | [], [], hv' => exact .tup _ _ hv' .nil
      | [c], [u], hv' => exact hv'
      | c :: c' :: cs, u :: u' :: us, hv' => exact .tup _ _ hv' .nil
      | [], _ :: _, hv' => cases hv'
      | _ :: _, [], hv' => cases hv'
      | [_], _ :: _ :: _, hv' => have := hv'.length; simp at this
      | _ :: _ :: _, [_], hv' => have := hv'.length; simp at this
    · exact hK.elim
  cases e with
  | normal => exact ⟨hd, done hp⟩
  | ret => exact ⟨hd, done hp⟩
  | _ => exact hp.elim

/-- What is asked of a call may be loosened. -/
theorem VCall.to {L : Low} {P : Program} {C : Cx} {f : Nat} {args : List VV} {roots : List Root} {K K' : VV → List Root → Prop} (h : VCall L P C f args roots K) (hk : ∀ c r, K c r → K' c r) : VCall L P C f args roots K' := h.mono hk

@[simp] theorem hLe_refl : ∀ roots : List Root, hLe roots roots
  | [] => trivial
  | _ :: r => ⟨.inr rfl, hLe_refl r⟩
end Go.Proofs.YtjldkpggcjolcaaV
