/- Contracts of functions that leave memory as it was. Conditions: those of each theorem. -/
import Derived.Test.YtjldkpggcjolcaaV22
namespace Go.Proofs.YtjldkpggcjolcaaV
set_option linter.unusedVariables false
set_option linter.unusedSimpArgs false

def gh0 : Nat → Gh := fun _ => ⟨0, 0, 0, false⟩

/-- The caller's part, as the contract tells of it. -/
def argC (roots : List Root) (c c' : VV) : Prop :=
  match c, c' with
  | .nils, .sl none _ rows' => rows' = []
  | .sl tag sz rows, .sl none sz' rows' => tagOk roots tag = true ∧ sz = sz' ∧ rows = rows'
  | .rs k g lo n, .sl none sz' rows' => szOf roots (.rs k g lo n) = some sz' ∧ rowsOf roots (.rs k g lo n) = some rows'
  | .undef, .undef => True
  | c, c' => isSc c = true ∧ c = c'

def argCs (roots : List Root) : List VV → List VV → Prop
  | [], [] => True
  | c :: cs, c' :: cs' => argC roots c c' ∧ argCs roots cs cs'
  | _, _ => False

def argV (roots : List Root) (c c' : VV) : Prop :=
  match c, c' with
  | .agg ds, .agg ds' => argCs roots ds ds'
  | c, c' => argC roots c c'

def argVs (roots : List Root) : List VV → List VV → Prop
  | [], [] => True
  | c :: cs, c' :: cs' => argV roots c c' ∧ argVs roots cs cs'
  | _, _ => False

def noRefC : VV → Bool
  | .rs _ _ _ _ => false
  | .sl (some _) _ _ => false
  | _ => true
def noRef : VV → Bool
  | .agg ds => ds.all noRefC
  | c => noRefC c

def noSlC : VV → Bool
  | .sl _ _ _ => false
  | _ => true
def noSlV : VV → Bool
  | .agg ds => ds.all noSlC
  | c => noSlC c
def noSl : VV → Bool
  | .tup ds => ds.all noSlV
  | c => noSlV c

/-- A function's contract: it reads what it is given; what it hands back it has made, or read. -/
def PC (L : Low) (P : Program) (f : Nat) (args : List VV) (res : VV) : Prop :=
  (∃ fn, P.funcs[f]? = some fn ∧ (fn.name == "runtime.NumGoroutine") = false ∧ fn.body.isNone = false) ∧
  ∀ (w : World) (vs : List Value) (A : List Nat), Gl P L w A → A.Nodup → (∀ b ∈ A, b < w.heap.size) → VRs (fun _ b => b < w.heap.size ∧ b ∉ A) w [] gh0 args vs → Calls P f vs.toArray w fun e w' =>
    ∃ v F, e = .returned v ∧ RowKit.Below w.heap.size w w' ∧ F.Nodup ∧ (∀ b ∈ F, w.heap.size ≤ b ∧ b < w'.heap.size) ∧ Res (fun b => b < w'.heap.size ∧ b ∉ A ∧ b ∉ F) w' res v F

/-- The same, of a result of which only something is told. -/
def PCQ (L : Low) (P : Program) (f : Nat) (args : List VV) (Q : VV → Prop) : Prop :=
  (∃ fn, P.funcs[f]? = some fn ∧ (fn.name == "runtime.NumGoroutine") = false ∧ fn.body.isNone = false) ∧
  ∀ (w : World) (vs : List Value) (A : List Nat), Gl P L w A → A.Nodup → (∀ b ∈ A, b < w.heap.size) → VRs (fun _ b => b < w.heap.size ∧ b ∉ A) w [] gh0 args vs → Calls P f vs.toArray w fun e w' =>
    ∃ v F, e = .returned v ∧ RowKit.Below w.heap.size w w' ∧ F.Nodup ∧ (∀ b ∈ F, w.heap.size ≤ b ∧ b < w'.heap.size) ∧ ∃ res, Q res ∧ Res (fun b => b < w'.heap.size ∧ b ∉ A ∧ b ∉ F) w' res v F

theorem PCQ.pc {L : Low} {P : Program} {f : Nat} {args : List VV} {res : VV} (h : PCQ L P f args fun c => c = res) : PC L P f args res :=
  ⟨h.1, fun w vs A hG h1 h2 hv => (h.2 w vs A hG h1 h2 hv).mono fun e w' ⟨v, F, he, hb, hn, hF, r, hr, hres⟩ => ⟨v, F, he, hb, hn, hF, hr ▸ hres⟩⟩

theorem PC.pcq {L : Low} {P : Program} {f : Nat} {args : List VV} {res : VV} {Q : VV → Prop} (h : PC L P f args res) (hq : Q res) : PCQ L P f args Q :=
  ⟨h.1, fun w vs A hG h1 h2 hv => (h.2 w vs A hG h1 h2 hv).mono fun e w' ⟨v, F, he, hb, hn, hF, hres⟩ => ⟨v, F, he, hb, hn, hF, res, hq, hres⟩⟩

section
variable {P : Program} {C : Cx} {roots roots' : List Root} {gh gh' : Nat → Gh} {Fk Fk' : Nat → List Nat} {X X' : List Nat} {w w' : World}

theorem argC_ok {c c' : VV} {v : Value} {ok : Nat → Prop} {nr : Bool} (hx : HX C roots gh Fk X w) (hok : ∀ tag b, (tag = none ∨ nr = false) → okF w roots Fk X tag b → ok b) (hlt : nr = false → ∀ b, b < w.heap.size → ok b)
    (hn : nr = true → noRefC c = true) (h : argC roots c c') (hv : VRs (okF w roots Fk X) w roots gh [c] [v]) : VRs (fun _ => ok) w [] gh0 [c'] [v] := by
  unfold argC at h
  split at h
  · rename_i sz rows'
    subst h
    have hs := isSc_ok rfl hv
    cases hs
    exact .sl none sz [] _ rfl (fun _ _ e => by cases e) (fun _ => .tr0 sz none 0 .nil) .nil
  · rename_i tag sz rows sz' rows'
    obtain ⟨ht, rfl, rfl⟩ := h
    cases hv with
    | sc hs _ => cases hs
    | sl tag sz rows v ho hk hh t =>
      refine .sl none sz rows v ho (fun _ _ e => by cases e) (fun _ => (hh ht).mono fun b hb => ⟨hok tag b ?_ hb, rfl⟩) .nil
      cases tag with
      | none => exact .inl rfl
      | some x => cases nr with
        | false => exact .inr rfl
        | true => have := hn rfl; simp [noRefC] at this
  · rename_i k g lo n sz' rows'
    have hnr : nr = false := by
      cases nr with
      | false => rfl
      | true => have := hn rfl; simp [noRefC] at this
    obtain ⟨sz, hro, hsz⟩ := rowsOf_ok hx h.2 hv
    have := hsz _ h.1
    subst this
    have ho : v.oneCell' = true := by
      cases hv with
      | sc hs _ => cases hs
      | rs k g lo n v ho hk hh t => exact ho
    exact .sl none _ rows' v ho (fun _ _ e => by cases e) (fun _ => hro.mono fun b hb => ⟨hlt hnr b hb, rfl⟩) .nil
  · exact .undef v .nil
  · obtain ⟨h1, rfl⟩ := h
    exact .sc (isSc_ok h1 hv) .nil

theorem argCs_ok {ok : Nat → Prop} {nr : Bool} (hx : HX C roots gh Fk X w) (hok : ∀ tag b, (tag = none ∨ nr = false) → okF w roots Fk X tag b → ok b) (hlt : nr = false → ∀ b, b < w.heap.size → ok b) :
    ∀ (cs cs' : List VV) (vs : List Value), (nr = true → cs.all noRefC = true) → argCs roots cs cs' → VRs (okF w roots Fk X) w roots gh cs vs → VRs (fun _ => ok) w [] gh0 cs' vs
  | [], [], vs, hn, h, hv => by
    have := hv.length
    have : vs = [] := List.eq_nil_of_length_eq_zero (by simpa using this)
    subst this; exact .nil
  | c :: cs, c' :: cs', vs, hn, h, hv => by
    cases vs with
    | nil => have := hv.length; simp at this
    | cons v vs =>
      have h1 := argC_ok (c' := c') hx hok hlt (fun e => by have := hn e; simp at this; exact this.1) h.1 hv.hd
      have h2 := argCs_ok hx hok hlt cs cs' vs (fun e => by have := hn e; simp at this ⊢; exact this.2) h.2 hv.tl
      exact VRs.app h1 h2
  | [], _ :: _, _, _, h, _ => h.elim
  | _ :: _, [], _, _, h, _ => h.elim

theorem argV_ok {c c' : VV} {v : Value} {ok : Nat → Prop} {nr : Bool} (hx : HX C roots gh Fk X w) (hok : ∀ tag b, (tag = none ∨ nr = false) → okF w roots Fk X tag b → ok b) (hlt : nr = false → ∀ b, b < w.heap.size → ok b)
    (hn : nr = true → noRef c = true) (h : argV roots c c') (hv : VRs (okF w roots Fk X) w roots gh [c] [v]) : VRs (fun _ => ok) w [] gh0 [c'] [v] := by
  unfold argV at h
  split at h
  · cases hv with
    | sc hs _ => cases hs
    | agg ds us h1 h2 t => exact .agg _ _ (argCs_ok hx hok hlt _ _ us (fun e => by simpa [noRef] using hn e) h h1) h2 .nil
  · rename_i hne
    refine argC_ok hx hok hlt (fun e => ?_) h hv
    have := hn e
    unfold noRef at this
    split at this
    · rfl
    · exact this

theorem argVs_ok {ok : Nat → Prop} {nr : Bool} (hx : HX C roots gh Fk X w) (hok : ∀ tag b, (tag = none ∨ nr = false) → okF w roots Fk X tag b → ok b) (hlt : nr = false → ∀ b, b < w.heap.size → ok b) :
    ∀ (cs cs' : List VV) (vs : List Value), (nr = true → cs.all noRef = true) → argVs roots cs cs' → VRs (okF w roots Fk X) w roots gh cs vs → VRs (fun _ => ok) w [] gh0 cs' vs
  | [], [], vs, hn, h, hv => by
    have := hv.length
    have : vs = [] := List.eq_nil_of_length_eq_zero (by simpa using this)
    subst this; exact .nil
  | c :: cs, c' :: cs', vs, hn, h, hv => by
    cases vs with
    | nil => have := hv.length; simp at this
    | cons v vs =>
      have h1 := argV_ok (c' := c') hx hok hlt (fun e => by have := hn e; simp at this; exact this.1) h.1 hv.hd
      have h2 := argVs_ok hx hok hlt cs cs' vs (fun e => by have := hn e; simp at this ⊢; exact this.2) h.2 hv.tl
      exact VRs.app h1 h2
  | [], _ :: _, _, _, h, _ => h.elim
  | _ :: _, [], _, _, h, _ => h.elim

theorem RC.noSl {ok ok' : Nat → Prop} {cs : List VV} {vs : List Value} {F : List Nat} (h : RC ok w cs vs F) (hn : cs.all noSlC = true) : RC ok' w cs vs F := by
  induction h with
  | nil => exact .nil
  | undef v ho _ ih => simp at hn; exact .undef v ho (ih (by simpa using hn.2))
  | sc h _ ih => simp at hn; exact .sc h (ih (by simpa using hn.2))
  | sl sz rows v ho h _ ih => simp [noSlC] at hn
  | tr sz rows v h _ ih => simp at hn; exact .tr sz rows v h (ih (by simpa using hn.2))

theorem RVs.noSl {ok ok' : Nat → Prop} {cs : List VV} {vs : List Value} {F : List Nat} (h : RVs ok w cs vs F) (hn : cs.all noSlV = true) : RVs ok' w cs vs F := by
  induction h with
  | nil => exact .nil
  | @one c v cs vs F G h _ ih =>
    simp at hn
    refine .one (h.noSl ?_) (ih (by simpa using hn.2))
    have := hn.1
    cases c <;> first | simpa [noSlV] using this | (cases h with | sc h _ => cases h)
  | agg ds us h _ ih => simp at hn; exact .agg ds us (h.noSl (by simpa [noSlV] using hn.1)) (ih (by simpa using hn.2))

theorem Res.noSl {ok ok' : Nat → Prop} {res : VV} {v : Value} {F : List Nat} (h : Res ok w res v F) (hn : YtjldkpggcjolcaaV.noSl res = true) : Res ok' w res v F := by
  cases res with
  | tup ds => obtain ⟨us, rfl, h⟩ := h; exact ⟨us, rfl, h.noSl hn⟩
  | _ => exact RVs.noSl h (by simpa [YtjldkpggcjolcaaV.noSl] using hn)

theorem RC.mono {ok ok' : Nat → Prop} {cs : List VV} {vs : List Value} {F : List Nat} (h : RC ok w cs vs F) (hn : ∀ b, ok b → ok' b) : RC ok' w cs vs F := by
  induction h with
  | nil => exact .nil
  | undef v ho _ ih => exact .undef v ho ih
  | sc h _ ih => exact .sc h ih
  | sl sz rows v ho h _ ih => exact .sl sz rows v ho (h.mono fun b hb => ⟨hn b hb, rfl⟩) ih
  | tr sz rows v h _ ih => exact .tr sz rows v h ih

/-- Time has gone by, and new blocks are held. -/
theorem HX.later (hx : HX C roots gh Fk [] w) (hb : RowKit.Below w.heap.size w w') {F : List Nat} (hn : F.Nodup) (hF : ∀ b ∈ F, w.heap.size ≤ b ∧ b < w'.heap.size) :
    HX C roots gh Fk F w' ∧ Ext roots gh Fk [] w roots gh Fk F w' := by
  have hext : Ext roots gh Fk [] w roots gh Fk F w' := ⟨.refl _ _, fun tag h1 h2 b h => by
    have hlt : b < w.heap.size := okF_lt h
    refine ⟨?_, hb.block b hlt⟩
    cases tag with
    | none => exact ⟨Nat.lt_of_lt_of_le hlt hb.size, fun hm => by have := (hF b hm).1; omega, h.2.2⟩
    | some x => exact ⟨Nat.lt_of_lt_of_le hlt hb.size, h.2⟩⟩
  refine ⟨?_, hext⟩
  exact {
    kept := ⟨hb.os.trans hx.kept.os, hb.tape.trans hx.kept.tape, hb.output.trans hx.kept.output, Nat.le_trans hx.kept.size hb.size, fun b h1 h2 => (hb.block b (Nat.lt_of_lt_of_le h1 hx.kept.size)).trans (hx.kept.block b h1 h2)⟩
    one := fun k R hR => (hx.one k R hR).mono (fun b hm => hb.block b (hx.mine k R hR b hm).1) hext.compat hext.keep
    nodup := hx.nodup
    apart := hx.apart
    mine := fun k R hR b hm => ⟨Nat.lt_of_lt_of_le (hx.mine k R hR b hm).1 hb.size, (hx.mine k R hR b hm).2⟩
    heldN := hn
    heldA := fun k R hR b hm hb' => by have := (hx.mine k R hR b hm).1; have := (hF b hb').1; omega
    heldM := fun b hm => ⟨(hF b hm).2, .inl (Nat.le_trans hx.kept.size (hF b hm).1)⟩ }

theorem Res.mono {ok ok' : Nat → Prop} {res : VV} {v : Value} {F : List Nat} (h : Res ok w res v F) (hn : ∀ b, ok b → ok' b) : Res ok' w res v F := by
  have h0 : ∀ {cs : List VV} {vs : List Value} {F : List Nat}, RVs ok w cs vs F → RVs ok' w cs vs F := by
    intro cs vs F h
    induction h with
    | nil => exact .nil
    | one h _ ih => exact .one (h.mono hn) ih
    | agg ds us h _ ih => exact .agg ds us (h.mono hn) ih
  cases res with
  | tup ds => obtain ⟨us, rfl, h⟩ := h; exact ⟨us, rfl, h0 h⟩
  | _ => exact h0 h

/-- A call under a contract. -/
theorem VCall.pureQ {L : Low} {f : Nat} {args args' : List VV} {Q : VV → Prop} {K : VV → List Root → Prop} (h : PCQ L P f args' Q) (ha : argVs roots args args') (hr : (∀ res, Q res → YtjldkpggcjolcaaV.noSl res = true) ∨ args.all noRef = true)
    (hK : ∀ res, Q res → K (adopt roots res).1 (adopt roots res).2) : VCall L P C f args roots K := by
  refine ⟨h.1, fun hG gh Fk w vs hx hv => ?_⟩
  have fin : ∀ (A : List Nat), (∀ b ∈ A, C.w0.heap.size ≤ b ∨ b ∈ C.F0) → A.Nodup → (∀ b ∈ A, b < w.heap.size) → VRs (fun _ b => b < w.heap.size ∧ b ∉ A) w [] gh0 args' vs → ((∀ res, Q res → YtjldkpggcjolcaaV.noSl res = true) ∨ ∀ k R, roots[k]? = some R → ∀ b ∈ Fk k, b ∈ A) →
      Calls P f vs.toArray w fun e w' => ∃ v c roots' gh' Fk', e = .returned v ∧ K c roots' ∧ HX C roots' gh' Fk' [] w' ∧ Ext roots gh Fk [] w roots' gh' Fk' [] w' ∧ VRs (okF w' roots' Fk' []) w' roots' gh' [c] [v] := by
    intro A hA0 hA1 hA2 hv' hcase
    refine (h.2 w vs A (hG.of hx.kept hA0) hA1 hA2 hv').mono fun e w' ⟨v, F, he, hb, hn, hF, res, hq, hres⟩ => ?_
    obtain ⟨hx', hext⟩ := hx.later hb hn hF
    have hres' : Res (okF w' roots Fk (F ++ []) none) w' res v F := by
      rcases hcase with hc | hc
      · exact hres.noSl (hc res hq)
      · refine hres.mono fun b hb => ⟨hb.1, by simpa using hb.2.2, fun k R hR hm => hb.2.1 (hc k R hR b hm)⟩
    obtain ⟨gh', Fk', h1, h2, h3⟩ := adopt_ok (C := C) (X := []) hres' (fun _ h => h) (by simpa using hx')
    exact ⟨v, _, _, gh', Fk', he, hK res hq, h1, hext.trans (by simpa using h2), h3⟩
  rcases hr with hr | hr
  · exact fin [] (fun _ h => by cases h) .nil (fun _ h => by cases h) (argVs_ok (nr := false) hx (fun tag b _ hb => ⟨okF_lt hb, by simp⟩) (fun _ b hb => ⟨hb, by simp⟩) _ _ _ (fun e => by cases e) ha hv) (.inl hr)
  · classical
    have hmem : ∀ b, b ∈ (List.range w.heap.size).filter (fun b => decide (∃ k R, roots[k]? = some R ∧ b ∈ Fk k)) ↔ b < w.heap.size ∧ ∃ k R, roots[k]? = some R ∧ b ∈ Fk k := by
      intro b; simp
    refine fin ((List.range w.heap.size).filter (fun b => decide (∃ k R, roots[k]? = some R ∧ b ∈ Fk k))) (fun b hb => by obtain ⟨_, k, R, hR, hm⟩ := (hmem b).1 hb; exact (hx.mine k R hR b hm).2) (List.nodup_range.filter _) (fun b hb => ((hmem b).1 hb).1) ?_ (.inr fun k R hR b hb => (hmem b).2 ⟨(hx.mine k R hR b hb).1, k, R, hR, hb⟩)
    refine argVs_ok (nr := true) hx (fun tag b ht hb => ?_) (fun e => by cases e) _ _ _ (fun _ => hr) ha hv
    rcases ht with rfl | ht
    · exact ⟨hb.1, fun hm => by obtain ⟨_, k, R, hR, hm⟩ := (hmem b).1 hm; exact hb.2.2 k R hR hm⟩
    · cases ht

/-- A call under a contract that tells the result. -/
theorem VCall.pure {L : Low} {f : Nat} {args args' : List VV} {res : VV} {K : VV → List Root → Prop} (h : PC L P f args' res) (ha : argVs roots args args') (hr : YtjldkpggcjolcaaV.noSl res = true ∨ args.all noRef = true)
    (hK : K (adopt roots res).1 (adopt roots res).2) : VCall L P C f args roots K :=
  VCall.pureQ (h.pcq (Q := fun c => c = res) rfl) ha (hr.imp (fun h r e => e ▸ h) id) (fun r e => e ▸ hK)

theorem Sc.same {c : VV} {v v' : Value} (hc : c ≠ .err) (h : Sc c v) (h' : Sc c v') : v = v' := by
  cases h <;> first | (exact absurd rfl hc) | (cases h' <;> rfl)

/-- A call under a contract, where the order is drawn. -/
theorem QCall.pure {L : Low} {f : Nat} {args args' : List VV} {c : VV} {v0 : Value} (h : PC L P f args' c) (ha : argVs roots args args') (hs : Sc c v0) (hc : c ≠ .err) : QCall L P C f args roots c := by
  refine ⟨h.1, fun hG gh Fk w vs hx hv => ⟨v0, hs, fun w' hb => ?_⟩⟩
  obtain ⟨hx', hext⟩ := Rel.below hx hb
  refine (h.2 w' vs [] ((hG.of hx.kept (A := []) (fun _ h => by cases h)).below hb) .nil (fun _ h => by cases h) (argVs_ok (nr := false) hx' (fun tag b _ hb => ⟨okF_lt hb, by simp⟩) (fun _ b hb => ⟨hb, by simp⟩) _ _ _ (fun e => by cases e) ha (hext.vrs hv))).mono fun e w'' ⟨v, F, he, hb', hn, hF, hres⟩ => ?_
  have hv0 : v = v0 := by
    have h1 : ∃ G, RC (fun b => b < w''.heap.size ∧ b ∉ ([] : List Nat) ∧ b ∉ F) w'' [c] [v] G := by
      cases hs <;> (cases hres with | one h t => exact ⟨_, h⟩)
    obtain ⟨G, h1⟩ := h1
    have h2 : Sc c v := by
      cases hs <;> (cases h1 with | sc h _ => exact h)
    exact h2.same hc hs
  subst hv0
  exact ⟨he, hb.trans ⟨hb'.os, hb'.tape, hb'.output, hb'.size, fun k hk => hb'.block k (Nat.lt_of_lt_of_le hk hb.size)⟩⟩
end
end Go.Proofs.YtjldkpggcjolcaaV
