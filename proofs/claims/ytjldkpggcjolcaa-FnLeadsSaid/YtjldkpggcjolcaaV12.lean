/- Cells that are handed on: what they own goes with them. Conditions: those of each theorem. -/
import Derived.Test.YtjldkpggcjolcaaV11
namespace Go.Proofs.YtjldkpggcjolcaaV
set_option linter.unusedVariables false
set_option linter.unusedSimpArgs false

section
variable {C : Cx} {roots roots' : List Root} {gh gh' : Nat → Gh} {Fk Fk' : Nat → List Nat} {X X' : List Nat} {w w' : World}

/-- What sealing leaves: the roots that were handed on are dead, their blocks are held. -/
structure Sealed (C : Cx) (roots : List Root) (gh : Nat → Gh) (Fk : Nat → List Nat) (X : List Nat) (w : World) (vs : List Value) (ts : List VV) (roots' : List Root) (own : Bool) (Fk' : Nat → List Nat) (F : List Nat) : Prop where
  hx : HX C roots' gh Fk' (F ++ X) w
  ext : Ext roots gh Fk X w roots' gh Fk' (F ++ X) w
  owns : own = true → OWs w ts vs F
  reads : ∀ ok : Nat → Prop, (∀ b ∈ F, ok b) → (∀ b, okF w roots' Fk' (F ++ X) none b → ok b) → RO ok w ts vs

theorem Scs.one1 {c : VV} {v : Value} (h : Sc c v) : Scs [c] [v] := .cons h .nil

theorem VRs.tl {ok : Option (Nat × Nat) → Nat → Prop} {c : VV} {v : Value} {cs : List VV} {vs : List Value} (h : VRs ok w roots gh (c :: cs) (v :: vs)) : VRs ok w roots gh cs vs := (h.split 1).2

theorem OWs.app {as bs : List VV} {us vs : List Value} {F G : List Nat} (h : OWs w as us F) (h' : OWs w bs vs G) : OWs w (as ++ bs) (us ++ vs) (F ++ G) := by
  induction h with
  | nil => exact h'
  | sc h _ ih => exact .sc h ih
  | tr0 sz _ ih => exact .tr0 sz ih
  | tr rows b cap sz cur e fr F hb hf hs hn hm hsz h1 _ _ ih =>
    have h2 := OWs.tr rows b cap sz cur e fr F hb hf hs hn hm hsz h1 ih
    simpa [List.append_assoc] using h2

/-- One cell that holds nothing: its rest has been sealed. -/
theorem Sealed.cons0 {t : VV} {v : Value} {vs : List Value} {ts : List VV} {own own' : Bool} {F : List Nat} (h : Sealed C roots gh Fk X w vs ts roots' own Fk' F)
    (ho : own' = true → own = true ∧ OWs w [t] [v] []) (hr : ∀ ok : Nat → Prop, (∀ b, okF w roots' Fk' (F ++ X) none b → ok b) → (∀ b ∈ F, ok b) → RO ok w [t] [v]) :
    Sealed C roots gh Fk X w (v :: vs) (t :: ts) roots' own' Fk' F :=
  ⟨h.hx, h.ext, fun e => by
    obtain ⟨e1, h1⟩ := ho e
    exact h1.app (h.owns e1), fun ok h1 h2 => (hr ok h2 h1).app (h.reads ok h1 h2)⟩

theorem vseal_ok : ∀ (cs : List VV) (sls : List (Option Nat)) (roots : List Root) (Fk : Nat → List Nat) (X : List Nat) (vs : List Value) (ts : List VV) (roots' : List Root) (own : Bool),
    vseal roots cs sls = some (ts, roots', own) → HX C roots gh Fk X w → VRs (okF w roots Fk X) w roots gh cs vs → ∃ Fk' F, Sealed C roots gh Fk X w vs ts roots' own Fk' F := by
  intro cs
  induction cs with
  | nil =>
    intro sls roots Fk X vs ts roots' own h hx hv
    simp only [vseal, Option.some.injEq, Prod.mk.injEq] at h
    obtain ⟨rfl, rfl, rfl⟩ := h
    have := hv.length
    have : vs = [] := List.eq_nil_of_length_eq_zero (by simpa using this)
    subst this
    exact ⟨Fk, [], hx, .refl, fun _ => .nil, fun _ _ _ => .nil⟩
  | cons c cs ih =>
    intro sls roots Fk X vs ts roots' own h hx hv
    cases vs with
    | nil => have := hv.length; simp at this
    | cons v vs =>
    have hc := hv.hd
    have ht := hv.tl
    have scalar : isSc c = true → vseal roots (c :: cs) sls = (vseal roots cs sls.tail).map (fun r => (c :: r.1, r.2.1, r.2.2)) → ∃ Fk' F, Sealed C roots gh Fk X w (v :: vs) ts roots' own Fk' F := by
      intro hs he
      rw [he] at h
      simp only [Option.map_eq_some_iff, Prod.mk.injEq] at h
      obtain ⟨⟨ts', r', o'⟩, h1, h2, h3, h4⟩ := h
      obtain ⟨Fk', F, hS⟩ := ih sls.tail roots Fk X vs ts' r' o' h1 hx ht
      simp only at h2 h3 h4
      subst h2 h3 h4
      have hsc := isSc_ok hs hc
      exact ⟨Fk', F, hS.cons0 (fun e => ⟨e, .sc hsc .nil⟩) (fun ok _ _ => .sc hsc .nil)⟩
    cases c
    case sl tag sz rows =>
      cases tag with
      | some x => simp [vseal, isSc] at h
      | none =>
        simp only [vseal, Option.map_eq_some_iff, Prod.mk.injEq] at h
        obtain ⟨⟨ts', r', o'⟩, h1, rfl, rfl, rfl⟩ := h
        obtain ⟨Fk', F, hS⟩ := ih sls.tail roots Fk X vs ts' r' o' h1 hx ht
        refine ⟨Fk', F, hS.cons0 (fun e => by cases e) (fun ok h2 h3 => ?_)⟩
        have hc' := hS.ext.vrs hc
        cases hc' with
        | sc hs _ => cases hs
        | sl tag sz rows v ho hk hh t => exact (hh rfl).mono fun b hb => ⟨h2 b hb, rfl⟩
    case rs k g lo n =>
      simp only [vseal] at h
      split at h
      · rename_i g' own' sz rows hk
        split at h
        · rename_i hcond
          obtain ⟨rfl, rfl, rfl⟩ := hcond
          simp only [Option.map_eq_some_iff, Prod.mk.injEq] at h
          obtain ⟨⟨ts', r', o'⟩, h1, rfl, rfl, rfl⟩ := h
          obtain ⟨hx1, he1⟩ := hx.take hk
          obtain ⟨Fk', F, hS⟩ := ih sls.tail _ _ _ vs ts' r' o' h1 hx1 (he1.vrs ht)
          obtain ⟨hw1, hw2⟩ := hx.whole hk hc
          have hn : (Fk k ++ F ++ X).Nodup := by
            have := hS.hx.heldN
            rw [List.nodup_append] at this ⊢
            obtain ⟨a1, a2, a3⟩ := this
            rw [List.nodup_append] at a2
            obtain ⟨b1, b2, b3⟩ := a2
            refine ⟨List.nodup_append.2 ⟨b1, a1, fun x hx y hy e => a3 y hy x (by simp [hx]) e.symm⟩, b2, fun x hx y hy e => ?_⟩
            rcases List.mem_append.1 hx with hx | hx
            · exact b3 x hx y hy e
            · exact a3 x hx y (by simp [hy]) e
          have hm : ∀ b, b ∈ Fk k ++ F ++ X ↔ b ∈ F ++ (Fk k ++ X) := fun b => by
            simp only [List.mem_append]
            exact ⟨fun h => h.elim (fun h => h.elim (fun h => .inr (.inl h)) .inl) (fun h => .inr (.inr h)), fun h => h.elim (fun h => .inl (.inr h)) (fun h => h.elim (fun h => .inl (.inl h)) .inr)⟩
          have hokm : ∀ tag b, okF w r' Fk' (F ++ (Fk k ++ X)) tag b → okF w r' Fk' (Fk k ++ F ++ X) tag b := by
            intro tag b hb
            cases tag with
            | none => exact ⟨hb.1, fun h => hb.2.1 ((hm b).1 h), hb.2.2⟩
            | some x => exact hb
          refine ⟨Fk', Fk k ++ F, hS.hx.perm hm hn, ?_, fun e => ?_, fun ok h2 h3 => ?_⟩
          · have e2 := he1.trans hS.ext
            exact ⟨e2.compat, fun tag t1 t0 b hb => ⟨hokm tag b (e2.keep tag t1 t0 b hb).1, rfl⟩⟩
          · simp only [Bool.and_eq_true] at e
            exact (hw1 e.1).app (hS.owns e.2)
          · refine (hw2 ok (fun b hb => h2 b (by simp [hb])) (fun b hb => ?_)).app (hS.reads ok (fun b hb => h2 b (by simp [hb])) (fun b hb => h3 b (hokm none b hb)))
            have e2 := he1.trans hS.ext
            exact h3 b (hokm none b (e2.keep none rfl rfl b hb).1)
        · cases h
      · cases h
    case nils =>
      simp only [vseal] at h
      split at h
      · rename_i sz hsz
        simp only [Option.map_eq_some_iff, Prod.mk.injEq] at h
        obtain ⟨⟨ts', r', o'⟩, h1, rfl, rfl, rfl⟩ := h
        obtain ⟨Fk', F, hS⟩ := ih sls.tail roots Fk X vs ts' r' o' h1 hx ht
        have hsc := isSc_ok rfl hc
        cases hsc
        exact ⟨Fk', F, hS.cons0 (fun e => ⟨e, .tr0 sz .nil⟩) (fun ok _ _ => .tr0 sz none 0 .nil)⟩
      · cases h
    case fn f caps =>
      cases caps with
      | nil => exact scalar rfl rfl
      | cons _ _ => simp [vseal, isSc] at h
    all_goals first
      | exact scalar rfl rfl
      | (simp [vseal, isSc] at h; done)
end
end Go.Proofs.YtjldkpggcjolcaaV
