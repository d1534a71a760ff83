/- A contract, from a walk over the abstract state. Conditions: the table of types fits the program. -/
import Derived.Test.YtjldkpggcjolcaaV23
namespace Go.Proofs.YtjldkpggcjolcaaV
set_option linter.unusedVariables false
set_option linter.unusedSimpArgs false

def initEnv : Nat → List VV → List (Nat × VV)
  | _, [] => []
  | i, c :: r => (i, c) :: initEnv (i + 1) r

/-- A cell that goes out, as the contract tells of it. -/
def expC (roots : List Root) (c t : VV) : Prop :=
  match c, t with
  | .nils, .tr _ rows => rows = []
  | .nils, .sl none _ rows => rows = []
  | .sl tag sz rows, .sl none sz' rows' => tagOk roots tag = true ∧ sz = sz' ∧ rows = rows'
  | .rs k g lo n, .tr sz' rows' => match roots[k]? with
    | some (.arr g' own sz rows) => g = g' ∧ own = true ∧ lo = 0 ∧ n = rows.length ∧ sz = sz' ∧ rows = rows'
    | _ => False
  | .rs k g lo n, .sl none sz' rows' => szOf roots (.rs k g lo n) = some sz' ∧ rowsOf roots (.rs k g lo n) = some rows'
  | c, t => isSc c = true ∧ c = t

def ownC (c t : VV) : List Nat :=
  match c, t with
  | .rs k _ _ _, .tr _ _ => [k]
  | _, _ => []

def readC (c t : VV) : List Nat :=
  match c, t with
  | .rs k _ _ _, .sl _ _ _ => [k]
  | .sl (some (k, _)) _ _, _ => [k]
  | _, _ => []

def expCs (roots : List Root) : List VV → List VV → Prop
  | [], [] => True
  | c :: cs, t :: ts => expC roots c t ∧ expCs roots cs ts
  | _, _ => False

def ownCs : List VV → List VV → List Nat
  | c :: cs, t :: ts => ownC c t ++ ownCs cs ts
  | _, _ => []

def readCs : List VV → List VV → List Nat
  | c :: cs, t :: ts => readC c t ++ readCs cs ts
  | _, _ => []

def expV (roots : List Root) (c t : VV) : Prop :=
  match c, t with
  | .agg ds, .agg ts => expCs roots ds ts
  | c, t => expC roots c t
def ownV (c t : VV) : List Nat :=
  match c, t with
  | .agg ds, .agg ts => ownCs ds ts
  | c, t => ownC c t
def readV (c t : VV) : List Nat :=
  match c, t with
  | .agg ds, .agg ts => readCs ds ts
  | c, t => readC c t

def expVs (roots : List Root) : List VV → List VV → Prop
  | [], [] => True
  | c :: cs, t :: ts => expV roots c t ∧ expVs roots cs ts
  | _, _ => False

def ownVs : List VV → List VV → List Nat
  | c :: cs, t :: ts => ownV c t ++ ownVs cs ts
  | _, _ => []

def readVs : List VV → List VV → List Nat
  | c :: cs, t :: ts => readV c t ++ readVs cs ts
  | _, _ => []

/-- All that goes out: nothing twice of what is owned. -/
def expAll (roots : List Root) (cs ts : List VV) : Prop :=
  expVs roots cs ts ∧ (ownVs cs ts).Nodup ∧ ∀ k ∈ readVs cs ts, k ∉ ownVs cs ts

/-- A result, from the frame: a slot's, or a variable's. -/
def rvV (T : Tbl) (σ : St) : ResultVar → Option VV
  | .tmp t => some (look σ.env t)
  | .cell a t => match T t with
    | some i => vload i σ.heap (look σ.env a)
    | none => none

def rvVs (T : Tbl) (σ : St) : List ResultVar → Option (List VV)
  | [] => some []
  | r :: rs => match rvV T σ r, rvVs T σ rs with
    | some c, some cs => some (c :: cs)
    | _, _ => none

/-- A call's results, as the contract tells of them. -/
def Exports (T : Tbl) (rs : List ResultVar) (res : VV) (σ : St) : Prop :=
  match rvVs T σ rs with
  | some [c] => match res with
    | .tup _ => False
    | t => expAll σ.heap [c] [t]
  | some cs => match res with
    | .tup ts => expAll σ.heap cs ts
    | _ => False
  | none => False

def post (T : Tbl) (fr : Root) (rs : List ResultVar) (res : VV) (e : Exit) (σ : St) : Prop :=
  match e with
  | .normal | .ret => σ.heap[0]? = some fr ∧ Exports T rs res σ
  | _ => False

section
variable {P : Program} {T : Tbl} {C : Cx} {roots roots' : List Root} {gh gh' : Nat → Gh} {Fk Fk' : Nat → List Nat} {X X' : List Nat} {w w' : World}

/-- A slice of a root reads, of that root and of what all may read. -/
theorem rowsOf_src (hr : HX C roots gh Fk X w) {k g lo n : Nat} {v : Value} {rows : List (List VV)} (h : rowsOf roots (.rs k g lo n) = some rows) (hv : VRs (okF w roots Fk X) w roots gh [.rs k g lo n] [v]) :
    ∃ sz, RO (fun b => okF w roots Fk X none b ∨ b ∈ Fk k) w [.tr sz rows] [v] ∧ (∀ sz', szOf roots (.rs k g lo n) = some sz' → sz' = sz) := by
  simp only [rowsOf] at h
  split at h
  · rename_i g' own sz rows' hk'
    split at h
    · rename_i hg
      obtain ⟨rfl, hle⟩ := hg
      cases h
      cases hv with
      | sc hs _ => cases hs
      | rs k g lo n v ho hk hh t =>
      obtain ⟨a, c, rfl, ha, hnc, _⟩ := hh own sz rows' hk'
      have hlen : ((rows'.drop lo).take n).length = n := by simp; omega
      refine ⟨sz, ?_, fun _ h => by simp [szOf, hk'] at h; exact h.symm⟩
      by_cases hn0 : n = 0
      · subst hn0
        simp only [List.take_zero]
        exact .tr0 sz a c .nil
      · rw [ha hn0]
        obtain ⟨hsze, hnz, cur, e, fr, hb, hs, hn, hsz, hro⟩ := hr.arr1 hk' (fun e => by rw [e] at hle; simp at hle; omega)
        have hrange : ((rows'.drop lo).take n).flatten = (rows'.flatten.drop (lo * sz)).take (n * sz) := by
          rw [flat_take sz _ (fun r hr => by rw [hsze]; exact hsz r (List.mem_of_mem_drop hr)), flat_drop sz _ (fun r hr => by rw [hsze]; exact hsz r hr)]
        have hro2 := ((hro.split (lo * sz)).2.split (n * sz)).1
        rw [← hrange] at hro2
        have := @RO.tr (fun b => okF w roots Fk X none b ∨ b ∈ Fk k) w [] [] ((rows'.drop lo).take n) (gh k).b (lo * (gh k).sz) c sz (((cur.toList.take (rows'.length * (gh k).sz)).drop (lo * sz)).take (n * sz))
          (.inr ((hr.one k _ hk').base rfl hnz)) (fun r hr => by rw [hsze]; exact hsz r (List.mem_of_mem_drop (List.mem_of_mem_take hr)))
          (fun q u hu => by
            rw [cell_blk hb]
            rw [List.getElem?_take] at hu
            split at hu
            · rw [List.getElem?_drop, List.getElem?_take] at hu
              split at hu
              · rw [← hsze]; exact hu
              · cases hu
            · cases hu) (by rw [hlen]; exact hnc) (hro2.mono fun b hb => ⟨by
              cases own
              · exact .inl hb
              · exact .inr (List.mem_of_mem_tail hb.2), rfl⟩) .nil
        rw [hlen] at this
        exact this
    · cases h
  · cases h

theorem expC_ok {ok : Nat → Prop} {c t : VV} {v : Value} (hx : HX C roots gh Fk X w) (hok : ∀ b, okF w roots Fk X none b → ok b) (hr : ∀ k ∈ readC c t, ∀ g own sz rows, roots[k]? = some (.arr g own sz rows) → ∀ b ∈ Fk k, b < w.heap.size → ok b)
    (h : expC roots c t) (hv : VRs (okF w roots Fk X) w roots gh [c] [v]) : RC ok w [t] [v] ((ownC c t).flatMap Fk) := by
  unfold expC at h
  split at h
  · rename_i sz rows
    subst h
    have hs := isSc_ok rfl hv
    cases hs
    exact .tr sz [] _ (.tr0 sz .nil) .nil
  · rename_i sz rows
    subst h
    have hs := isSc_ok rfl hv
    cases hs
    exact .sl sz [] _ rfl (.tr0 sz none 0 .nil) .nil
  · rename_i tag sz rows sz' rows'
    obtain ⟨ht, rfl, rfl⟩ := h
    cases hv with
    | sc hs _ => cases hs
    | sl tag sz rows v ho hk hh t =>
      have e : ownC (.sl tag sz rows) (.sl none sz rows) = [] := by cases tag <;> rfl
      rw [e]
      refine .sl sz rows v ho ((hh ht).mono fun b hb => ⟨?_, rfl⟩) .nil
      cases tag with
      | none => exact hok b hb
      | some x =>
        obtain ⟨k, g⟩ := x
        simp only [tagOk] at ht
        split at ht
        · rename_i g' own sz' rows' hR
          exact hr k (by simp [readC]) _ _ _ _ hR b (List.mem_of_mem_tail hb.2) hb.1
        · cases ht
  · rename_i k g lo n sz' rows'
    split at h
    · rename_i g' own sz rows hR
      obtain ⟨rfl, rfl, rfl, rfl, rfl, rfl⟩ := h
      have := (hx.whole hR hv).1 rfl
      have h2 := RC.tr (ok := ok) sz rows v this (.nil)
      simpa [ownC] using h2
    · exact h.elim
  · rename_i k g lo n sz' rows'
    obtain ⟨sz, hro, hsz⟩ := rowsOf_src hx h.2 hv
    have := hsz _ h.1
    subst this
    have hR : ∃ g own sz rows, roots[k]? = some (.arr g own sz rows) := by
      have := h.1
      simp only [szOf] at this
      split at this
      · rename_i hR; exact ⟨_, _, _, _, hR⟩
      · cases this
    obtain ⟨g1, own1, sz1, rows1, hR⟩ := hR
    cases hv with
    | sc hs _ => cases hs
    | rs k g lo n v ho hk hh t =>
      exact .sl _ rows' v ho (hro.mono fun b hb => ⟨by
        rcases hb with hb | hb
        · exact hok b hb
        · exact hr k (by simp [readC]) _ _ _ _ hR b hb (hx.mine k _ hR b hb).1, rfl⟩) .nil
  · obtain ⟨h1, rfl⟩ := h
    have e : ownC c c = [] := by cases c <;> first | rfl | (simp [isSc] at h1; done)
    rw [e]
    exact .sc (isSc_ok h1 hv) .nil

theorem RC.app {ok : Nat → Prop} {as bs : List VV} {us vs : List Value} {F G : List Nat} (h : RC ok w as us F) (h' : RC ok w bs vs G) : RC ok w (as ++ bs) (us ++ vs) (F ++ G) := by
  induction h with
  | nil => exact h'
  | undef v ho _ ih => exact .undef v ho ih
  | sc h _ ih => exact .sc h ih
  | sl sz rows v ho h _ ih => exact .sl sz rows v ho h ih
  | tr sz rows v h _ ih =>
    have := RC.tr sz rows v h ih
    simpa [List.append_assoc] using this

theorem expCs_ok {ok : Nat → Prop} (hx : HX C roots gh Fk X w) (hok : ∀ b, okF w roots Fk X none b → ok b) : ∀ (cs ts : List VV) (vs : List Value), (∀ k ∈ readCs cs ts, ∀ g own sz rows, roots[k]? = some (.arr g own sz rows) → ∀ b ∈ Fk k, b < w.heap.size → ok b) →
    expCs roots cs ts → VRs (okF w roots Fk X) w roots gh cs vs → RC ok w ts vs ((ownCs cs ts).flatMap Fk)
  | [], [], vs, _, _, hv => by
    have := hv.length
    have : vs = [] := List.eq_nil_of_length_eq_zero (by simpa using this)
    subst this; exact .nil
  | c :: cs, t :: ts, vs, hr, h, hv => by
    cases vs with
    | nil => have := hv.length; simp at this
    | cons v vs =>
      have h1 := expC_ok hx hok (fun k hk => hr k (by simp [readCs, hk])) h.1 hv.hd
      have h2 := expCs_ok hx hok cs ts vs (fun k hk => hr k (by simp [readCs, hk])) h.2 hv.tl
      have := h1.app h2
      simpa [ownCs] using this
  | [], _ :: _, _, _, h, _ => h.elim
  | _ :: _, [], _, _, h, _ => h.elim

theorem RVs.app {ok : Nat → Prop} {as bs : List VV} {us vs : List Value} {F G : List Nat} (h : RVs ok w as us F) (h' : RVs ok w bs vs G) : RVs ok w (as ++ bs) (us ++ vs) (F ++ G) := by
  induction h with
  | nil => exact h'
  | one h _ ih =>
    have := RVs.one h ih
    simpa [List.append_assoc] using this
  | agg ds us h _ ih =>
    have := RVs.agg ds us h ih
    simpa [List.append_assoc] using this

theorem expV_ok {ok : Nat → Prop} {c t : VV} {v : Value} (hx : HX C roots gh Fk X w) (hok : ∀ b, okF w roots Fk X none b → ok b) (hr : ∀ k ∈ readV c t, ∀ g own sz rows, roots[k]? = some (.arr g own sz rows) → ∀ b ∈ Fk k, b < w.heap.size → ok b)
    (h : expV roots c t) (hv : VRs (okF w roots Fk X) w roots gh [c] [v]) : RVs ok w [t] [v] ((ownV c t).flatMap Fk) := by
  have one : expC roots c t → (∀ k ∈ readC c t, ∀ g own sz rows, roots[k]? = some (.arr g own sz rows) → ∀ b ∈ Fk k, b < w.heap.size → ok b) → RVs ok w [t] [v] ((ownC c t).flatMap Fk) := fun h hr => by
    have := RVs.one (expC_ok hx hok hr h hv) .nil
    simpa using this
  unfold expV at h
  split at h
  · rename_i ds ts
    cases hv with
    | sc hs _ => cases hs
    | agg ds us h1 h2 t =>
      have := RVs.agg _ _ (expCs_ok hx hok ds ts us hr h h1) .nil
      simpa [ownV] using this
  · rename_i hne
    have e1 : ownV c t = ownC c t := by
      unfold ownV; split
      · exact absurd rfl (hne _ _ rfl)
      · rfl
    have e2 : readV c t = readC c t := by
      unfold readV; split
      · exact absurd rfl (hne _ _ rfl)
      · rfl
    rw [e1]
    exact one h (by rw [e2] at hr; exact hr)

theorem expVs_ok {ok : Nat → Prop} (hx : HX C roots gh Fk X w) (hok : ∀ b, okF w roots Fk X none b → ok b) : ∀ (cs ts : List VV) (vs : List Value), (∀ k ∈ readVs cs ts, ∀ g own sz rows, roots[k]? = some (.arr g own sz rows) → ∀ b ∈ Fk k, b < w.heap.size → ok b) →
    expVs roots cs ts → VRs (okF w roots Fk X) w roots gh cs vs → RVs ok w ts vs ((ownVs cs ts).flatMap Fk)
  | [], [], vs, _, _, hv => by
    have := hv.length
    have : vs = [] := List.eq_nil_of_length_eq_zero (by simpa using this)
    subst this; exact .nil
  | c :: cs, t :: ts, vs, hr, h, hv => by
    cases vs with
    | nil => have := hv.length; simp at this
    | cons v vs =>
      have h1 := expV_ok hx hok (fun k hk => hr k (by simp [readVs, hk])) h.1 hv.hd
      have h2 := expVs_ok hx hok cs ts vs (fun k hk => hr k (by simp [readVs, hk])) h.2 hv.tl
      have := h1.app h2
      simpa [ownVs] using this
  | [], _ :: _, _, _, h, _ => h.elim
  | _ :: _, [], _, _, h, _ => h.elim

theorem look_init (cs : List VV) : ∀ (i t : Nat), look (initEnv i cs) t = if i ≤ t then (cs[t - i]?).getD .undef else .undef := by
  induction cs with
  | nil => intro i t; simp [initEnv, look]
  | cons c cs ih =>
    intro i t
    simp only [initEnv, look, ih]
    by_cases h : i = t
    · subst h; simp
    · rw [if_neg h]
      by_cases h2 : i ≤ t
      · rw [if_pos (by omega), if_pos h2, show t - i = (t - (i + 1)) + 1 by omega, List.getElem?_cons_succ]
      · rw [if_neg (by omega), if_neg h2]

theorem run_rv (hT : TOk P T) (hx : HX C roots gh Fk X w) {env : List (Nat × VV)} {tmps : Array Value} (he : EnvR (okF w roots Fk X) w roots gh env tmps) {g : ResultVar → Sem Value} (hg1 : ∀ t, g (.tmp t) = pure (tmps.getD t undef))
    (hg2 : ∀ a t, g (.cell a t) = do loadVar t (← asAddr (tmps.getD a undef))) : ∀ (rs : List ResultVar) (cs : List VV), rvVs T ⟨env, roots⟩ rs = some cs → ∃ vs, (rs.mapM g).run P w = .ok vs w ∧ VRs (okF w roots Fk X) w roots gh cs vs
  | [], cs, h => by simp [rvVs] at h; subst h; exact ⟨[], rfl, .nil⟩
  | r :: rs, cs, h => by
    simp only [rvVs] at h
    split at h
    · rename_i c cs' hc hcs
      cases h
      obtain ⟨vs, h1, h2⟩ := run_rv hT hx he hg1 hg2 rs cs' hcs
      obtain ⟨v, h3, h4⟩ : ∃ v, (g r).run P w = .ok v w ∧ VRs (okF w roots Fk X) w roots gh [c] [v] := by
        cases r with
        | tmp t => simp [rvV] at hc; subst hc; exact ⟨_, by rw [hg1]; rfl, he t⟩
        | cell a t =>
          simp only [rvV] at hc
          split at hc
          · rename_i i hi
            obtain ⟨u, hu, hcu⟩ := vload_ok (hT _ _ hi) hx hc (he a)
            refine ⟨u, ?_, hcu⟩
            have hu' := hu w (Same.refl w)
            rw [hg2]
            unfold Instr.loadAt at hu'
            generalize tmps.getD a undef = v at hu' ⊢
            cases v with
            | pointer p =>
              cases p with
              | some x => simpa [Instr.sureAddr, asAddr] using hu'
              | none => simp [Instr.sureAddr, stuck] at hu'
            | _ => simp [Instr.sureAddr, stuck] at hu'
          · cases hc
      exact ⟨v :: vs, by simp only [List.mapM_cons, Sem.run_bind, h3, h1, Sem.run_pure, Result.andThen_ok], VRs.app h4 h2⟩
    · cases h

theorem run_results (hT : TOk P T) {fn : Func} {rs : List ResultVar} (h : fn.results = rs.toArray) (hx : HX C roots gh Fk X w) {env : List (Nat × VV)} {tmps : Array Value} (he : EnvR (okF w roots Fk X) w roots gh env tmps) {cs : List VV}
    (hc : rvVs T ⟨env, roots⟩ rs = some cs) : ∃ vs, VRs (okF w roots Fk X) w roots gh cs vs ∧ (results fn tmps).run P w = .ok (match vs with | [v] => v | vs => .tuple vs.toArray) w := by
  obtain ⟨vs, h1, h2⟩ := run_rv hT hx he (g := fun
    | .tmp t => pure (tmps.getD t undef)
    | .cell a t => do loadVar t (← asAddr (tmps.getD a undef))) (fun _ => rfl) (fun _ _ => rfl) rs cs hc
  refine ⟨vs, h2, ?_⟩
  have h1' : (rs.mapM (fun (x : ResultVar) => (match x with
    | .tmp t => pure (tmps.getD t undef)
    | .cell a t => do loadVar t (← asAddr (tmps.getD a undef)) : Sem Value))).run P w = .ok vs w := h1
  unfold results
  rw [h, List.mapM_toArray, Sem.run_bind, Sem.run_map]
  erw [h1']
  match vs with
  | [] => simp
  | [r] => simp
  | r :: s :: rs => simp

end
end Go.Proofs.YtjldkpggcjolcaaV
