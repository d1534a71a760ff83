/- Calls that are lent a variable. Conditions: those of each theorem. -/
import Derived.Test.YtjldkpggcjolcaaV35
namespace Go.Proofs.YtjldkpggcjolcaaV
set_option linter.unusedVariables false
set_option linter.unusedSimpArgs false

/-- A cell that leads to nothing but what all may read. -/
def plainC : VV → Bool
  | .sl none _ _ => true
  | c => isSc c

theorem VRs.plain {ok ok' : Option (Nat × Nat) → Nat → Prop} {w : World} {roots roots' : List Root} {gh gh' : Nat → Gh} (hok : ∀ b, ok none b → ok' none b) : ∀ {cs : List VV} {vs : List Value}, VRs ok w roots gh cs vs → cs.all plainC = true → VRs ok' w roots' gh' cs vs
  | [], vs, h, _ => by cases h; exact .nil
  | c :: cs, [], h, _ => by have := h.length; simp at this
  | c :: cs, v :: vs, h, hs => by
    simp only [List.all_cons, Bool.and_eq_true] at hs
    have h2 : VRs ok w roots gh cs vs := by cases h <;> assumption
    have t := VRs.plain (roots' := roots') (gh' := gh') hok h2 hs.2
    by_cases hc : isSc c = true
    · exact .sc (isSc_ok hc h.hd) t
    · have h1 := h.hd
      have hp := hs.1
      match c, h1, hp, hc with
      | .sl none sz rows, h1, _, _ =>
        cases h1 with
        | sc hh _ => cases hh
        | sl tag sz rows v ho hk hh _ => exact .sl none sz rows v ho (fun _ _ e => by cases e) (fun _ => (hh rfl).mono fun b hb => ⟨hok b hb, rfl⟩) t

/-- All but one block is as it was. -/
structure But (b : Nat) (w w' : World) : Prop where
  os : w'.os = w.os
  tape : w'.tape = w.tape
  output : w'.output = w.output
  size : w.heap.size ≤ w'.heap.size
  block : ∀ x, x < w.heap.size → x ≠ b → w'.heap[x]? = w.heap[x]?

/-- The contract of a function whose first argument points to a variable that it may write. -/
def PCB (L : Low) (P : Program) (f : Nat) (cells : List VV) (args : List VV) (Q : VV → List VV → Prop) : Prop :=
  (∃ fn, P.funcs[f]? = some fn ∧ (fn.name == "runtime.NumGoroutine") = false ∧ fn.body.isNone = false) ∧
  ∀ (w : World) (vs : List Value) (A : List Nat) (b : Nat) (cur : Array Value) (T : TypeId) (fr : Nat × Nat), Gl P L w (b :: A) → (b :: A).Nodup → (∀ x ∈ b :: A, x < w.heap.size) → w.heap[b]? = some (.cells cur T fr) → Free cur.size fr →
    (∀ u ∈ cur.toList, u.oneCell' = true) → VRs (fun _ x => x < w.heap.size ∧ x ∉ b :: A) w [] gh0 cells cur.toList → VRs (fun _ x => x < w.heap.size ∧ x ∉ b :: A) w [] gh0 args vs →
    Calls P f (Value.pointer (some ⟨b, 0, none⟩) :: vs).toArray w fun e w' => ∃ v F res cells' cur' T' fr', Q res cells' ∧ e = .returned v ∧ But b w w' ∧ F.Nodup ∧ (∀ x ∈ F, w.heap.size ≤ x ∧ x < w'.heap.size) ∧
      w'.heap[b]? = some (.cells cur' T' fr') ∧ Free cur'.size fr' ∧ (∀ u ∈ cur'.toList, u.oneCell' = true) ∧ cells'.all plainC = true ∧ VRs (fun _ x => x < w'.heap.size ∧ x ∉ b :: A ∧ x ∉ F) w' [] gh0 cells' cur'.toList ∧
      Res (fun x => x < w'.heap.size ∧ x ∉ b :: A ∧ x ∉ F) w' res v F

/-- What is asked where such a function ends. -/
def postB (T : Tbl) (fr : Root) (rs : List ResultVar) (Q : VV → List VV → Prop) (e : Exit) (σ : St) : Prop :=
  ∃ res c1, Q res c1 ∧ c1.all plainC = true ∧ σ.heap[1]? = some (.box c1) ∧ post T fr rs res e σ

section
variable {P : Program} {T : Tbl} {C : Cx}

theorem PCB.introW {L : Low} {f nt : Nat} {fn : Func} {c : Code} {rs : List ResultVar} {cells args : List VV} {Q : VV → List VV → Prop} (hT : TOk P T) (hm : P.follows .mixedOrders = true) (hf : P.funcs[f]? = some fn) (hc : fn.body = some c) (hnt : fn.ntmps = nt)
    (hn : (fn.name == "runtime.NumGoroutine") = false) (hrs : fn.results = rs.toArray) (hlen0 : Nat.ble (args.length + 1) nt = true) (hcode : codeOk nt c = true) (hcells : cells.all plainC = true)
    (h : ∀ C sn A g F w hG, VW ⟨P, T, C, ⟨[.frame sn A, .box cells], g, F, w⟩, nt, L, hG⟩ c (postB T (.frame sn A) rs Q) ⟨initEnv 0 (.ptr 1 0 0 0 :: args), [.frame sn A, .box cells]⟩) : PCB L P f cells args Q := by
  subst hnt
  have hlen := Nat.le_of_ble_eq_true hlen0
  refine ⟨⟨fn, hf, hn, by rw [hc]; rfl⟩, fun w vs A b cur T0 fr hG hA1 hA2 hb hfree hone hcv hv => ?_⟩
  refine calls_of_wp hf hc ?_
  have hl : vs.length = args.length := hv.length
  obtain ⟨hbA, hA1'⟩ := List.nodup_cons.1 hA1
  have hokb : ∀ x, (x < w.heap.size ∧ x ∉ b :: A) → okF w [.frame (fun b => w.heap[b]?) A, .box cells] (fun k => if k = 0 then A else [b]) [] none x := fun x hx => ⟨hx.1, by simp, fun k R hR hm => by
    cases k with
    | zero => exact hx.2 (by simp at hm; simp [hm])
    | succ k => cases k with
      | zero => exact hx.2 (by simp at hm; simp [hm])
      | succ k => simp at hR⟩
  have hx : HX ⟨w, b :: A⟩ [.frame (fun b => w.heap[b]?) A, .box cells] (fun _ => ⟨b, 0, 0, false⟩) (fun k => if k = 0 then A else [b]) [] w := {
    kept := ⟨rfl, rfl, rfl, Nat.le_refl _, fun _ _ _ => rfl⟩
    one := fun k R hR => by
      cases k with
      | zero => simp at hR; subst hR; exact .frame _ _ fun _ _ => rfl
      | succ k => cases k with
        | zero =>
          simp at hR; subst hR
          exact .box cells cur T0 fr hb hfree (hcv.plain hokb hcells) hone
        | succ k => simp at hR
    nodup := fun k R hR => by
      cases k with
      | zero => exact hA1'
      | succ k => cases k with
        | zero => simp
        | succ k => simp at hR
    apart := fun k l R S hR hS hkl x hxk hxl => by
      have two : ∀ n (R : Root), [Root.frame (fun b => w.heap[b]?) A, .box cells][n]? = some R → n = 0 ∨ n = 1 := fun n R h => by
        match n with
        | 0 => exact .inl rfl
        | 1 => exact .inr rfl
        | n + 2 => simp at h
      rcases two k R hR with rfl | rfl <;> rcases two l S hS with rfl | rfl
      · exact hkl rfl
      · simp at hxk hxl; subst hxl; exact hbA hxk
      · simp at hxk hxl; subst hxk; exact hbA hxl
      · exact hkl rfl
    mine := fun k R hR x hx => by
      cases k with
      | zero => simp at hx; exact ⟨hA2 x (by simp [hx]), .inr (by simp [hx])⟩
      | succ k => simp at hx; subst hx; exact ⟨hA2 x (by simp), .inr (by simp)⟩
    heldN := .nil
    heldA := fun _ _ _ _ _ h => by cases h
    heldM := fun _ h => by cases h }
  have hv' : VRs (okF w [.frame (fun b => w.heap[b]?) A, .box cells] (fun k => if k = 0 then A else [b]) []) w [.frame (fun b => w.heap[b]?) A, .box cells] (fun _ => ⟨b, 0, 0, false⟩) (.ptr 1 0 0 0 :: args) (Value.pointer (some ⟨b, 0, none⟩) :: vs) := by
    refine .ptr 1 0 0 0 _ rfl ⟨by simp, fun g' own sz rows hr => by simp at hr⟩ (fun _ _ => rfl) (fun own sz rows hr => by simp at hr) ?_
    refine hv.mono ⟨Nat.zero_le _, fun k _ hk => absurd hk (Nat.not_lt_zero _), fun k _ _ _ _ hk => absurd hk (Nat.not_lt_zero _)⟩ (fun tag _ h0 x hx => by
      cases tag with
      | none => exact ⟨hokb x hx, rfl⟩
      | some y => simp [tagOk] at h0)
  have hrel : Rel ⟨w, b :: A⟩ ⟨[.frame (fun b => w.heap[b]?) A, .box cells], (fun _ => ⟨b, 0, 0, false⟩), (fun k => if k = 0 then A else [b]), w⟩ fn.ntmps ⟨initEnv 0 (.ptr 1 0 0 0 :: args), [.frame (fun b => w.heap[b]?) A, .box cells]⟩
      { tmps := (Value.pointer (some ⟨b, 0, none⟩) :: vs).toArray ++ Array.replicate (fn.ntmps - (Value.pointer (some ⟨b, 0, none⟩) :: vs).toArray.size) undef, defers := [] } w := by
    refine ⟨_, _, hx, .refl, rfl, by simp; omega, fun t => ?_⟩
    simp only [look_init]
    rw [if_pos (Nat.zero_le _), Nat.sub_zero]
    by_cases ht : t < (VV.ptr 1 0 0 0 :: args).length
    · obtain ⟨v, h1, h2⟩ := hv'.get t _ (List.getElem?_eq_getElem ht)
      have : ((Value.pointer (some ⟨b, 0, none⟩) :: vs).toArray ++ Array.replicate (fn.ntmps - (Value.pointer (some ⟨b, 0, none⟩) :: vs).toArray.size) undef).getD t undef = v := by
        have hlt : t < (Value.pointer (some ⟨b, 0, none⟩) :: vs).length := by simp at ht ⊢; omega
        rw [Array.getD_eq_getD_getElem?, Array.getElem?_append_left (by simpa using hlt)]
        simp only [List.getElem?_toArray, h1, Option.getD_some]
      rw [this, List.getElem?_eq_getElem ht]
      exact h2
    · rw [List.getElem?_eq_none (by omega)]
      exact .undef _ .nil
  refine wp_mono (h ⟨w, b :: A⟩ _ _ _ _ _ hG _ _ hrel) fun e a' w' ⟨σ', ⟨res, c1, hq, hpl, hb1, hp⟩, gh, Fk, hx', hext, hd, hs, he⟩ => ?_
  obtain ⟨_, hg1⟩ := hext.compat.box 1 c1 (by simp) hb1
  have hbox : Fk 1 = [b] ∧ ∃ cur' T' fr', w'.heap[b]? = some (.cells cur' T' fr') ∧ Free cur'.size fr' ∧ (∀ u ∈ cur'.toList, u.oneCell' = true) ∧ VRs (okF w' σ'.heap Fk []) w' σ'.heap gh c1 cur'.toList := by
    have := hx'.one 1 _ hb1
    rw [hg1] at this
    generalize Fk 1 = F at this
    cases this with
    | box cs cur' T' fr' h1 h2 h3 h4 => exact ⟨rfl, cur', T', fr', h1, h2, h4, h3⟩
  obtain ⟨hF1, cur', T', fr', k1, k2, k3, k4⟩ := hbox
  have fin : σ'.heap[0]? = some (.frame (fun b => w.heap[b]?) A) → ∀ (cs ts : List VV) (us : List Value), expAll σ'.heap cs ts → VRs (okF w' σ'.heap Fk []) w' σ'.heap gh cs us → ∃ F, But b w w' ∧ F.Nodup ∧ (∀ b ∈ F, w.heap.size ≤ b ∧ b < w'.heap.size) ∧
      VRs (fun _ x => x < w'.heap.size ∧ x ∉ b :: A ∧ x ∉ F) w' [] gh0 c1 cur'.toList ∧ RVs (fun x => x < w'.heap.size ∧ x ∉ b :: A ∧ x ∉ F) w' ts us F := by
    intro h0 cs ts us hE hvs
    obtain ⟨h1, h2, h3⟩ := hE
    have hF0 : Fk 0 = A ∧ ∀ b ∈ A, w'.heap[b]? = w.heap[b]? := by
      have := hx'.one 0 _ h0
      generalize Fk 0 = F at this
      cases this with
      | frame _ _ h => exact ⟨rfl, h⟩
    have hown := fun k hk => ownVs_some h1 k hk
    have hne : ∀ k g own sz rows, σ'.heap[k]? = some (.arr g own sz rows) → k ≠ 0 ∧ k ≠ 1 := fun k g own sz rows hR => ⟨(fun e => by subst e; rw [h0] at hR; cases hR), (fun e => by subst e; rw [hb1] at hR; cases hR)⟩
    have hnotA : ∀ k g own sz rows, σ'.heap[k]? = some (.arr g own sz rows) → ∀ x ∈ Fk k, x ∉ b :: A := by
      intro k g own sz rows hR x hxk hxA
      rcases List.mem_cons.1 hxA with rfl | hxA
      · exact hx'.apart k 1 _ _ hR hb1 (hne _ _ _ _ _ hR).2 x hxk (by rw [hF1]; simp)
      · exact hx'.apart k 0 _ _ hR h0 (hne _ _ _ _ _ hR).1 x hxk (by rw [hF0.1]; exact hxA)
    have hnone : ∀ x, okF w' σ'.heap Fk [] none x → x < w'.heap.size ∧ x ∉ b :: A ∧ x ∉ (ownVs cs ts).flatMap Fk := by
      intro x hxo
      refine ⟨hxo.1, fun hA => ?_, fun hm' => ?_⟩
      · rcases List.mem_cons.1 hA with rfl | hA
        · exact hxo.2.2 1 _ hb1 (by rw [hF1]; simp)
        · exact hxo.2.2 0 _ h0 (by rw [hF0.1]; exact hA)
      · obtain ⟨k, hk, hm'⟩ := List.mem_flatMap.1 hm'
        obtain ⟨_, _, _, _, hR⟩ := hown k hk
        exact hxo.2.2 k _ hR hm'
    refine ⟨(ownVs cs ts).flatMap Fk, ?_, ?_, ?_, ?_, ?_⟩
    · refine ⟨hx'.kept.os, hx'.kept.tape, hx'.kept.output, hx'.kept.size, fun x hxs hxb => ?_⟩
      by_cases hA : x ∈ A
      · exact hF0.2 x hA
      · exact hx'.kept.block x hxs (by simp [hA, hxb])
    · exact flat_nodup _ h2 (fun k hk => by obtain ⟨_, _, _, _, hR⟩ := hown k hk; exact hx'.nodup k _ hR)
        (fun k hk l hl hkl => by obtain ⟨_, _, _, _, hR⟩ := hown k hk; obtain ⟨_, _, _, _, hS⟩ := hown l hl; exact hx'.apart k l _ _ hR hS hkl)
    · intro x hxm
      obtain ⟨k, hk, hxm⟩ := List.mem_flatMap.1 hxm
      obtain ⟨g, own, sz, rows, hR⟩ := hown k hk
      obtain ⟨m1, m2⟩ := hx'.mine k _ hR x hxm
      exact ⟨m2.resolve_right fun hA => hnotA k _ _ _ _ hR x hxm hA, m1⟩
    · exact k4.plain hnone hpl
    · have a2 : ∀ k ∈ readVs cs ts, ∀ g own sz rows, σ'.heap[k]? = some (.arr g own sz rows) → ∀ x ∈ Fk k, x < w'.heap.size → x < w'.heap.size ∧ x ∉ b :: A ∧ x ∉ (ownVs cs ts).flatMap Fk := by
        intro k hk g own sz rows hR x hxk hlt
        refine ⟨hlt, hnotA k _ _ _ _ hR x hxk, fun hm' => ?_⟩
        obtain ⟨l, hl, hm'⟩ := List.mem_flatMap.1 hm'
        obtain ⟨_, _, _, _, hS⟩ := hown l hl
        exact hx'.apart k l _ _ hR hS (fun e => h3 k hk (e ▸ hl)) x hxk hm'
      exact expVs_ok hx' hnone cs ts us a2 h1 hvs
  have done : (σ'.heap[0]? = some (.frame (fun b => w.heap[b]?) A) ∧ Exports T rs res σ') → ∃ v, (results fn a'.tmps).run P w' = .ok v w' ∧ ∃ v' F res cells' cur' T' fr', Q res cells' ∧ Ending.returned v = .returned v' ∧ But b w w' ∧ F.Nodup ∧ (∀ x ∈ F, w.heap.size ≤ x ∧ x < w'.heap.size) ∧
      w'.heap[b]? = some (.cells cur' T' fr') ∧ Free cur'.size fr' ∧ (∀ u ∈ cur'.toList, u.oneCell' = true) ∧ cells'.all plainC = true ∧ VRs (fun _ x => x < w'.heap.size ∧ x ∉ b :: A ∧ x ∉ F) w' [] gh0 cells' cur'.toList ∧
      Res (fun x => x < w'.heap.size ∧ x ∉ b :: A ∧ x ∉ F) w' res v' F := by
    rintro ⟨h0, hE⟩
    unfold Exports at hE
    split at hE
    · rename_i c hc
      obtain ⟨us, hv, hrun⟩ := run_results hT hrs hx' he hc
      obtain ⟨u, rfl⟩ : ∃ u, us = [u] := by
        match us, hv.length with
        | [u], _ => exact ⟨u, rfl⟩
      refine ⟨_, hrun, ?_⟩
      cases res with
      | tup ts => exact hE.elim
      | _ =>
        obtain ⟨F, h1, h2, h3, h4, h5⟩ := fin h0 _ _ _ hE hv
        exact ⟨_, F, _, c1, cur', T', fr', hq, rfl, h1, h2, h3, k1, k2, k3, hpl, h4, h5⟩
    · rename_i cs hne hc
      obtain ⟨us, hv, hrun⟩ := run_results hT hrs hx' he hc
      refine ⟨_, hrun, ?_⟩
      cases res with
      | tup ts =>
        obtain ⟨F, h1, h2, h3, h4, h5⟩ := fin h0 _ _ _ hE hv
        refine ⟨_, F, _, c1, cur', T', fr', hq, rfl, h1, h2, h3, k1, k2, k3, hpl, h4, us, ?_, h5⟩
        match us, hv.length with
        | [], _ => rfl
        | [u], hl =>
          match cs, hl with
          | [c], _ => exact absurd rfl (hne c)
        | u :: u' :: us, _ => rfl
      | _ => exact hE.elim
    · exact hE.elim
  cases e with
  | normal => exact ⟨hd, done hp⟩
  | ret => exact ⟨hd, done hp⟩
  | _ => exact hp.elim

theorem PCB.intro {L : Low} {f nt : Nat} {fn : Func} {c : Code} {rs : List ResultVar} {cells args : List VV} {Q : VV → List VV → Prop} (hT : TOk P T) (hm : P.follows .mixedOrders = true) (hf : P.funcs[f]? = some fn) (hc : fn.body = some c) (hnt : fn.ntmps = nt)
    (hn : (fn.name == "runtime.NumGoroutine") = false) (hrs : fn.results = rs.toArray) (hlen0 : Nat.ble (args.length + 1) nt = true) (hcode : codeOk nt c = true) (hcells : cells.all plainC = true)
    (h : ∀ C sn A g F w hG, VS ⟨P, T, C, ⟨[.frame sn A, .box cells], g, F, w⟩, nt, L, hG⟩ [.code c] (postB T (.frame sn A) rs Q) .normal (initEnv 0 (.ptr 1 0 0 0 :: args)) [.frame sn A, .box cells]) : PCB L P f cells args Q :=
  PCB.introW hT hm hf hc hnt hn hrs hlen0 hcode hcells fun C sn A g F w hG => vwpE_ok hT hm c _ _ hcode (by have h := h C sn A g F w hG; rw [VS_vk] at h; exact h)

theorem PCB.mono {L : Low} {f : Nat} {cells args : List VV} {Q Q' : VV → List VV → Prop} (h : PCB L P f cells args Q) (hq : ∀ r c, Q r c → Q' r c) : PCB L P f cells args Q' :=
  ⟨h.1, fun w vs A b cur T fr h1 h2 h3 h4 h5 h6 h7 h8 => (h.2 w vs A b cur T fr h1 h2 h3 h4 h5 h6 h7 h8).mono fun e w' ⟨v, F, res, c2, cur', T', fr', hQ, r⟩ => ⟨v, F, res, c2, cur', T', fr', hq _ _ hQ, r⟩⟩

/-- A call that is lent a variable. -/
theorem VCall.pureB {L : Low} {roots : List Root} {f k g : Nat} {c1 args args' : List VV} {Q : VV → List VV → Prop} {K : VV → List Root → Prop} (h : PCB L P f c1 args' Q) (hk : roots[k]? = some (.box c1)) (hp : c1.all plainC = true)
    (ha : argVs roots args args') (hr : args.all noRef = true) (hK : ∀ res c2, Q res c2 → c2.all plainC = true → K (adopt (roots.set k (.box c2)) res).1 (adopt (roots.set k (.box c2)) res).2) : VCall L P C f (.ptr k g 0 0 :: args) roots K := by
  classical
  refine ⟨h.1, fun hG gh Fk w vs hx hv => ?_⟩
  have hlt : k < roots.length := (List.getElem?_eq_some_iff.1 hk).1
  cases hv with
  | sc h _ => cases h
  | @ptr _ vs _ _ _ _ v ho hgen hb' ha' hvt =>
  obtain rfl := hb' c1 hk
  have hbox : Fk k = [(gh k).b] ∧ ∃ cur T fr, w.heap[(gh k).b]? = some (.cells cur T fr) ∧ Free cur.size fr ∧ (∀ u ∈ cur.toList, u.oneCell' = true) ∧ VRs (okF w roots Fk []) w roots gh c1 cur.toList := by
    have := hx.one k _ hk
    generalize Fk k = F at this
    cases this with
    | box cs cur T fr h1 h2 h3 h4 => exact ⟨rfl, cur, T, fr, h1, h2, h4, h3⟩
  obtain ⟨hF, cur, T0, fr, k1, k2, k3, k4⟩ := hbox
  generalize hb : (gh k).b = b at *
  have hmem : ∀ x, x ∈ (List.range w.heap.size).filter (fun x => decide (∃ l R, l ≠ k ∧ roots[l]? = some R ∧ x ∈ Fk l)) ↔ x < w.heap.size ∧ ∃ l R, l ≠ k ∧ roots[l]? = some R ∧ x ∈ Fk l := by
    intro x; simp
  have hAnd : ((List.range w.heap.size).filter (fun x => decide (∃ l R, l ≠ k ∧ roots[l]? = some R ∧ x ∈ Fk l))).Nodup := List.nodup_range.filter _
  generalize (List.range w.heap.size).filter (fun x => decide (∃ l R, l ≠ k ∧ roots[l]? = some R ∧ x ∈ Fk l)) = A at hmem hAnd
  have hbm := hx.mine k _ hk b (by rw [hF]; simp)
  have hbA : b ∉ A := fun hm => by
    obtain ⟨_, l, R, hl, hR, hm⟩ := (hmem b).1 hm
    exact hx.apart l k R _ hR hk hl b hm (by rw [hF]; simp)
  have hin : ∀ l R, l ≠ k → roots[l]? = some R → ∀ x ∈ Fk l, x ∈ A := fun l R hl hR x hm => (hmem x).2 ⟨(hx.mine l R hR x hm).1, l, R, hl, hR, hm⟩
  have hout : ∀ x, okF w roots Fk [] none x → x < w.heap.size ∧ x ∉ b :: A := fun x hx' => ⟨hx'.1, fun hm => by
    rcases List.mem_cons.1 hm with rfl | hm
    · exact hx'.2.2 k _ hk (by rw [hF]; simp)
    · obtain ⟨_, l, R, hl, hR, hm⟩ := (hmem x).1 hm
      exact hx'.2.2 l R hR hm⟩
  have hA0 : ∀ x ∈ b :: A, C.w0.heap.size ≤ x ∨ x ∈ C.F0 := fun x hm => by
    rcases List.mem_cons.1 hm with rfl | hm
    · exact hbm.2
    · obtain ⟨_, l, R, hl, hR, hm⟩ := (hmem x).1 hm
      exact (hx.mine l R hR x hm).2
  have hvs : VRs (fun _ x => x < w.heap.size ∧ x ∉ b :: A) w [] gh0 args' vs := argVs_ok (nr := true) hx (fun tag x ht hb => by
    rcases ht with rfl | ht
    · exact hout x hb
    · cases ht) (fun e => by cases e) _ _ _ (fun _ => hr) ha hvt
  refine (h.2 w vs A b cur T0 fr (hG.of hx.kept hA0) (List.nodup_cons.2 ⟨hbA, hAnd⟩) (fun x hm => by
      rcases List.mem_cons.1 hm with rfl | hm
      · exact hbm.1
      · exact ((hmem x).1 hm).1) k1 k2 k3 (k4.plain hout hp) hvs).mono fun e w' ⟨v, F, res, c2, cur', T', fr', hQ, he, hbut, hFn, hFm, m1, m2, m3, m4, m5, m6⟩ => ?_
  have hbF : b ∉ F := fun hm => by have := (hFm b hm).1; have := hbm.1; omega
  have c : Chg C roots gh Fk [] w k (roots.set k (.box c2)) (.box c2) (gh k) [b] F [b] w' := {
    kept := ⟨hbut.os.trans hx.kept.os, hbut.tape.trans hx.kept.tape, hbut.output.trans hx.kept.output, Nat.le_trans hx.kept.size hbut.size, fun x h1 h2 => (hbut.block x (Nat.lt_of_lt_of_le h1 hx.kept.size) (fun e => by
      subst e
      rcases hbm.2 with h | h
      · omega
      · exact h2 h)).trans (hx.kept.block x h1 h2)⟩
    le := by simp
    at' := by simp [hlt]
    other := fun l hl => by rw [List.getElem?_set_ne (Ne.symm hl)]
    size := hbut.size
    same := fun x hxs hxb => hbut.block x hxs (by simpa using hxb)
    wr := fun x hm => .inl ⟨hlt, by rw [hF]; exact hm⟩
    sub := fun x hm => by
      rcases List.mem_append.1 hm with hm | hm
      · exact .inl ⟨hlt, by rw [hF]; exact hm⟩
      · exact .inr (.inr (hFm x hm).1)
    nd := by simp [hbF, hFn]
    lt := fun x hm => by
      rcases List.mem_append.1 hm with hm | hm
      · simp at hm; subst hm; exact Nat.lt_of_lt_of_le hbm.1 hbut.size
      · exact (hFm x hm).2
    cbox := fun _ _ _ => ⟨⟨_, hk⟩, rfl⟩
    carr := fun _ _ _ _ h => by cases h }
  have hok : ∀ x, (x < w'.heap.size ∧ x ∉ b :: A ∧ x ∉ F) → okF w' (roots.set k (.box c2)) (upd Fk k [b]) F none x := fun x hx' => ⟨hx'.1, hx'.2.2, fun l R hR hm => by
    by_cases e : l = k
    · subst e; rw [upd_same] at hm; exact hx'.2.1 (by simp at hm; simp [hm])
    · rw [upd_other _ _ e] at hm; rw [List.getElem?_set_ne (Ne.symm e)] at hR
      exact hx'.2.1 (by simp [hin l R e hR x hm])⟩
  have hone : HR1 (okF w' (roots.set k (.box c2)) (upd Fk k [b]) F) w' (roots.set k (.box c2)) (upd gh k (gh k)) (gh k) (.box c2) [b] := by
    have := HR1.box (ok := okF w' (roots.set k (.box c2)) (upd Fk k [b]) F) (roots := roots.set k (.box c2)) (gh := upd gh k (gh k)) (g0 := gh k) c2 cur' T' fr' (by rw [hb]; exact m1) m2 (m5.plain hok m4) m3
    rw [hb] at this
    exact this
  have hx2 := hx.step c (Nat.le_of_lt hlt) hone
  have hext := hx.ext c (Nat.le_of_lt hlt)
  obtain ⟨gh', Fk', h1, h2, h3⟩ := adopt_ok (C := C) (X := []) (roots := roots.set k (.box c2)) (m6.mono fun x hx' => by simpa using hok x hx') (fun _ h => h) (by simpa using hx2)
  exact ⟨v, _, _, gh', Fk', he, hK res c2 hQ m4, h1, hext.trans (by simpa using h2), h3⟩

theorem CallK.pureB {E : Env0} {Q : Exit → St → Prop} {ks : List Fr} {env : List (Nat × VV)} {heap : List Root} {f k g : Nat} {args args' c1 : List VV} {Qr : VV → List VV → Prop} {dst : Option Nat} {A : Array Oper} {r : List Oper} (h : PCB E.L E.P f c1 args' Qr) (hk : heap[k]? = some (.box c1)) (hp : c1.all plainC = true)
    (ha : argVs heap args args') (hr : args.all noRef = true)
    (hK : ∀ res c2, Qr res c2 → VS E (.ops A r :: ks) Q .normal (dput dst (adopt (heap.set k (.box c2)) res).1 env) (adopt (heap.set k (.box c2)) res).2) : CallK E f (.ptr k g 0 0 :: args) dst A r ks Q env heap := VCall.pureB h hk hp ha hr fun res c2 hq _ => hK res c2 hq

theorem LoopK.times {E : Env0} {Q : Exit → St → Prop} {ks : List Fr} {env : List (Nat × VV)} {heap : List Root} {c : Code} {β : Type} (hT : TOk E.P E.T) (hm : E.P.follows .mixedOrders = true) (n : Nat) (S : Nat → β → St) (I : Nat → β → Prop) (b0 : β)
    (hn : ∀ m b, Nat.ble E.B.r.length (S m b).heap.length = true) (h0 : stLe ⟨env, heap⟩ (S 0 b0)) (hI : I 0 b0)
    (step : ∀ m b, m < n → I m b → VS E (.code c :: .stop (fun σ' => ∃ b', stLe σ' (S (m + 1) b') ∧ I (m + 1) b') :: ks) Q .normal (S m b).env (S m b).heap)
    (last : ∀ b, I n b → VS E (.code c :: .stop (fun _ => False) :: ks) Q .normal (S n b).env (S n b).heap) : LoopK E c ks Q env heap := by
  refine LoopK.rounds hT hm (ι := {p : Nat × β // p.1 ≤ n ∧ I p.1 p.2}) (fun p => S p.1.1 p.1.2) (fun p => n - p.1.1) ⟨(0, b0), by simp, hI⟩ (fun p => hn _ _) h0 ?_
  rintro ⟨⟨m, b⟩, hp, hi⟩
  simp only at hp hi ⊢
  by_cases e : m = n
  · subst e
    have h := last b hi
    rw [VS_vk] at h ⊢
    exact vk_stop_mono (fun σ h => h.elim) h
  · have h := step m b (by omega) hi
    rw [VS_vk] at h ⊢
    refine vk_stop_mono (fun σ h => ?_) h
    obtain ⟨b', h1, h2⟩ := h
    exact ⟨⟨(m + 1, b'), by show m + 1 ≤ n; omega, h2⟩, h1, by show n - (m + 1) < n - m; omega⟩
end
end Go.Proofs.YtjldkpggcjolcaaV
