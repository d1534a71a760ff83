/- A function's contract, from the walk of its body. Conditions: the table of types fits the program. -/
import Derived.Test.YtjldkpggcjolcaaV24
namespace Go.Proofs.YtjldkpggcjolcaaV
set_option linter.unusedVariables false
set_option linter.unusedSimpArgs false

theorem flat_nodup {Fk : Nat → List Nat} : ∀ (ks : List Nat), ks.Nodup → (∀ k ∈ ks, (Fk k).Nodup) → (∀ k ∈ ks, ∀ l ∈ ks, k ≠ l → ∀ b ∈ Fk k, b ∉ Fk l) → (ks.flatMap Fk).Nodup
  | [], _, _, _ => by simp
  | k :: ks, h, h1, h2 => by
    rw [List.nodup_cons] at h
    simp only [List.flatMap_cons]
    refine List.nodup_append.2 ⟨h1 k (by simp), flat_nodup ks h.2 (fun l hl => h1 l (by simp [hl])) (fun a ha b hb => h2 a (by simp [ha]) b (by simp [hb])), fun a ha b hb e => ?_⟩
    subst e
    obtain ⟨l, hl, hb⟩ := List.mem_flatMap.1 hb
    exact h2 k (by simp) l (by simp [hl]) (fun e => h.1 (e ▸ hl)) a ha hb

/-- What is exported whole is there. -/
theorem ownVs_some {roots : List Root} : ∀ {cs ts : List VV}, expVs roots cs ts → ∀ k ∈ ownVs cs ts, ∃ g own sz rows, roots[k]? = some (.arr g own sz rows) := by
  have h1 : ∀ {c t : VV}, expC roots c t → ∀ k ∈ ownC c t, ∃ g own sz rows, roots[k]? = some (.arr g own sz rows) := by
    intro c t h k hk
    unfold ownC at hk
    split at hk
    · rename_i k' g lo n sz rows
      simp at hk
      subst hk
      simp only [expC] at h
      split at h
      · rename_i hR; exact ⟨_, _, _, _, hR⟩
      · exact h.elim
    · cases hk
  have h2 : ∀ {cs ts : List VV}, expCs roots cs ts → ∀ k ∈ ownCs cs ts, ∃ g own sz rows, roots[k]? = some (.arr g own sz rows) := by
    intro cs
    induction cs with
    | nil => intro ts h k hk; cases ts <;> simp [ownCs] at hk
    | cons c cs ih =>
      intro ts h k hk
      cases ts with
      | nil => exact h.elim
      | cons t ts =>
        simp only [ownCs, List.mem_append] at hk
        rcases hk with hk | hk
        · exact h1 h.1 k hk
        · exact ih h.2 k hk
  intro cs
  induction cs with
  | nil => intro ts h k hk; cases ts <;> simp [ownVs] at hk
  | cons c cs ih =>
    intro ts h k hk
    cases ts with
    | nil => exact h.elim
    | cons t ts =>
      simp only [ownVs, List.mem_append] at hk
      rcases hk with hk | hk
      · have := h.1
        unfold expV at this
        split at this
        · exact h2 this k (by simpa [ownV] using hk)
        · rename_i hne
          refine h1 this k ?_
          unfold ownV at hk
          split at hk
          · exact absurd rfl (hne _ _ rfl)
          · exact hk
      · exact ih h.2 k hk

section
variable {P : Program} {T : Tbl}

theorem PCQ.introW {L : Low} {f nt : Nat} {fn : Func} {c : Code} {rs : List ResultVar} {args : List VV} {Q : VV → Prop} (hT : TOk P T) (hm : P.follows .mixedOrders = true) (hf : P.funcs[f]? = some fn) (hc : fn.body = some c) (hnt : fn.ntmps = nt)
    (hn : (fn.name == "runtime.NumGoroutine") = false) (hrs : fn.results = rs.toArray) (hlen0 : Nat.ble args.length nt = true) (hcode : codeOk nt c = true)
    (h : ∀ C sn A g F w hG, VW ⟨P, T, C, ⟨[.frame sn A], g, F, w⟩, nt, L, hG⟩ c (fun e σ => ∃ res, Q res ∧ post T (.frame sn A) rs res e σ) ⟨initEnv 0 args, [.frame sn A]⟩) : PCQ L P f args Q := by
  subst hnt
  have hlen := Nat.le_of_ble_eq_true hlen0
  refine ⟨⟨fn, hf, hn, by rw [hc]; rfl⟩, fun w vs A hG hA1 hA2 hv => ?_⟩
  refine calls_of_wp hf hc ?_
  have hl := hv.length
  have hlen' : vs.length = args.length := hl
  have hx : HX ⟨w, A⟩ [.frame (fun b => w.heap[b]?) A] gh0 (fun _ => A) [] w := {
    kept := ⟨rfl, rfl, rfl, Nat.le_refl _, fun _ _ _ => rfl⟩
    one := fun k R hR => by
      cases k with
      | zero => simp at hR; subst hR; exact .frame _ _ fun _ _ => rfl
      | succ k => simp at hR
    nodup := fun _ _ _ => hA1
    apart := fun k l R S hR hS hkl => by
      cases k with
      | succ k => simp at hR
      | zero => cases l with
        | zero => exact absurd rfl hkl
        | succ l => simp at hS
    mine := fun k R hR b hb => ⟨hA2 b hb, .inr hb⟩
    heldN := .nil
    heldA := fun _ _ _ _ _ h => by cases h
    heldM := fun _ h => by cases h }
  have hok : ∀ b, (b < w.heap.size ∧ b ∉ A) → okF w [.frame (fun b => w.heap[b]?) A] (fun _ => A) [] none b := fun b hb => ⟨hb.1, by simp, fun k R hR hm => hb.2 hm⟩
  have hv' : VRs (okF w [.frame (fun b => w.heap[b]?) A] (fun _ => A) []) w [.frame (fun b => w.heap[b]?) A] gh0 args vs :=
    hv.mono ⟨Nat.zero_le _, fun k _ hk => absurd hk (Nat.not_lt_zero _), fun k _ _ _ _ hk => absurd hk (Nat.not_lt_zero _)⟩ (fun tag _ h0 b hb => by
      cases tag with
      | none => exact ⟨hok b hb, rfl⟩
      | some x => simp [tagOk] at h0)
  have hrel : Rel ⟨w, A⟩ ⟨[.frame (fun b => w.heap[b]?) A], gh0, fun _ => A, w⟩ fn.ntmps ⟨initEnv 0 args, [.frame (fun b => w.heap[b]?) A]⟩ { tmps := vs.toArray ++ Array.replicate (fn.ntmps - vs.toArray.size) undef, defers := [] } w := by
    refine ⟨gh0, fun _ => A, hx, .refl, rfl, by simp; omega, fun t => ?_⟩
    simp only [look_init]
    rw [if_pos (Nat.zero_le _), Nat.sub_zero]
    by_cases ht : t < args.length
    · obtain ⟨v, h1, h2⟩ := hv'.get t args[t] (List.getElem?_eq_getElem ht)
      have : (vs.toArray ++ Array.replicate (fn.ntmps - vs.toArray.size) undef).getD t undef = v := by
        have hlt : t < vs.length := by omega
        rw [Array.getD_eq_getD_getElem?, Array.getElem?_append_left (by simpa using hlt)]
        simp [h1]
      rw [this, List.getElem?_eq_getElem ht]
      exact h2
    · rw [List.getElem?_eq_none (by omega)]
      exact .undef _ .nil
  refine wp_mono (h ⟨w, A⟩ _ _ _ _ _ hG _ _ hrel) fun e a' w' ⟨σ', ⟨res, hq, hp⟩, gh, Fk, hx', _, hd, hs, he⟩ => ?_
  have fin : σ'.heap[0]? = some (.frame (fun b => w.heap[b]?) A) → ∀ (cs ts : List VV) (us : List Value), expAll σ'.heap cs ts → VRs (okF w' σ'.heap Fk []) w' σ'.heap gh cs us → ∃ F, RowKit.Below w.heap.size w w' ∧ F.Nodup ∧ (∀ b ∈ F, w.heap.size ≤ b ∧ b < w'.heap.size) ∧ RVs (fun b => b < w'.heap.size ∧ b ∉ A ∧ b ∉ F) w' ts us F := by
    intro h0 cs ts us hE hvs
    obtain ⟨h1, h2, h3⟩ := hE
    have hF0 : Fk 0 = A ∧ ∀ b ∈ A, w'.heap[b]? = w.heap[b]? := by
      have := hx'.one 0 _ h0
      generalize Fk 0 = F at this
      cases this with
      | frame _ _ h => exact ⟨rfl, h⟩
    have hown := fun k hk => ownVs_some h1 k hk
    have hne : ∀ k g own sz rows, σ'.heap[k]? = some (.arr g own sz rows) → k ≠ 0 := fun k g own sz rows hR e => by subst e; rw [h0] at hR; cases hR
    refine ⟨(ownVs cs ts).flatMap Fk, ?_, ?_, ?_, ?_⟩
    · refine ⟨hx'.kept.os, hx'.kept.tape, hx'.kept.output, hx'.kept.size, fun b hb => ?_⟩
      by_cases hA : b ∈ A
      · exact hF0.2 b hA
      · exact hx'.kept.block b hb hA
    · exact flat_nodup _ h2 (fun k hk => by obtain ⟨_, _, _, _, hR⟩ := hown k hk; exact hx'.nodup k _ hR)
        (fun k hk l hl hkl => by obtain ⟨_, _, _, _, hR⟩ := hown k hk; obtain ⟨_, _, _, _, hS⟩ := hown l hl; exact hx'.apart k l _ _ hR hS hkl)
    · intro b hb
      obtain ⟨k, hk, hb⟩ := List.mem_flatMap.1 hb
      obtain ⟨g, own, sz, rows, hR⟩ := hown k hk
      obtain ⟨m1, m2⟩ := hx'.mine k _ hR b hb
      refine ⟨m2.resolve_right fun hA => ?_, m1⟩
      exact hx'.apart k 0 _ _ hR h0 (hne _ _ _ _ _ hR) b hb (by rw [hF0.1]; exact hA)
    · have a1 : ∀ b, okF w' σ'.heap Fk [] none b → b < w'.heap.size ∧ b ∉ A ∧ b ∉ (ownVs cs ts).flatMap Fk := by
        intro b hb
        refine ⟨hb.1, fun hA => hb.2.2 0 _ h0 (by rw [hF0.1]; exact hA), fun hm' => ?_⟩
        obtain ⟨k, hk, hm'⟩ := List.mem_flatMap.1 hm'
        obtain ⟨_, _, _, _, hR⟩ := hown k hk
        exact hb.2.2 k _ hR hm'
      have a2 : ∀ k ∈ readVs cs ts, ∀ g own sz rows, σ'.heap[k]? = some (.arr g own sz rows) → ∀ b ∈ Fk k, b < w'.heap.size → b < w'.heap.size ∧ b ∉ A ∧ b ∉ (ownVs cs ts).flatMap Fk := by
        intro k hk g own sz rows hR b hb hlt
        refine ⟨hlt, fun hA => ?_, fun hm' => ?_⟩
        · exact hx'.apart k 0 _ _ hR h0 (hne _ _ _ _ _ hR) b hb (by rw [hF0.1]; exact hA)
        · obtain ⟨l, hl, hm'⟩ := List.mem_flatMap.1 hm'
          obtain ⟨_, _, _, _, hS⟩ := hown l hl
          exact hx'.apart k l _ _ hR hS (fun e => h3 k hk (e ▸ hl)) b hb hm'
      exact expVs_ok hx' a1 cs ts us a2 h1 hvs
  have done : (σ'.heap[0]? = some (.frame (fun b => w.heap[b]?) A) ∧ Exports T rs res σ') → ∃ v, (results fn a'.tmps).run P w' = .ok v w' ∧ ∃ v' F, Ending.returned v = .returned v' ∧ RowKit.Below w.heap.size w w' ∧ F.Nodup ∧ (∀ b ∈ F, w.heap.size ≤ b ∧ b < w'.heap.size) ∧ ∃ res, Q res ∧ Res (fun b => b < w'.heap.size ∧ b ∉ A ∧ b ∉ F) w' res v' F := by
    rintro ⟨h0, hE⟩
    unfold Exports at hE
    split at hE
    · rename_i c hc
      obtain ⟨us, hv, hrun⟩ := run_results hT hrs hx' he hc
      obtain ⟨u, rfl⟩ : ∃ u, us = [u] := by
        match us, hv.length with
        | [u], _ => exact ⟨u, rfl⟩
      refine ⟨_, hrun, ?_⟩
      cases res with
      | tup ts => exact hE.elim
      | _ =>
        obtain ⟨F, h1, h2, h3, h4⟩ := fin h0 _ _ _ hE hv
        exact ⟨_, F, rfl, h1, h2, h3, _, hq, h4⟩
    · rename_i cs hne hc
      obtain ⟨us, hv, hrun⟩ := run_results hT hrs hx' he hc
      refine ⟨_, hrun, ?_⟩
      cases res with
      | tup ts =>
        obtain ⟨F, h1, h2, h3, h4⟩ := fin h0 _ _ _ hE hv
        refine ⟨_, F, rfl, h1, h2, h3, _, hq, us, ?_, h4⟩
        match us, hv.length with
        | [], _ => rfl
        | [u], hl =>
          match cs, hl with
          | [c], _ => exact absurd rfl (hne c)
        | u :: u' :: us, _ => rfl
      | _ => exact hE.elim
    · exact hE.elim
  cases e with
  | normal => exact ⟨hd, done hp⟩
  | ret => exact ⟨hd, done hp⟩
  | _ => exact hp.elim

theorem PC.introW {L : Low} {f nt : Nat} {fn : Func} {c : Code} {rs : List ResultVar} {args : List VV} {res : VV} (hT : TOk P T) (hm : P.follows .mixedOrders = true) (hf : P.funcs[f]? = some fn) (hc : fn.body = some c) (hnt : fn.ntmps = nt)
    (hn : (fn.name == "runtime.NumGoroutine") = false) (hrs : fn.results = rs.toArray) (hlen0 : Nat.ble args.length nt = true) (hcode : codeOk nt c = true)
    (h : ∀ C sn A g F w hG, VW ⟨P, T, C, ⟨[.frame sn A], g, F, w⟩, nt, L, hG⟩ c (post T (.frame sn A) rs res) ⟨initEnv 0 args, [.frame sn A]⟩) : PC L P f args res :=
  PCQ.pc (PCQ.introW hT hm hf hc hnt hn hrs hlen0 hcode fun C sn A g F w hG => (h C sn A g F w hG).mono fun e σ hp => ⟨res, rfl, hp⟩)
end
end Go.Proofs.YtjldkpggcjolcaaV
