/- Rules of the walk: loops, calls, contracts. Conditions: the table of types fits the program. -/
import Derived.Test.YtjldkpggcjolcaaV32
namespace Go.Proofs.YtjldkpggcjolcaaV
set_option linter.unusedVariables false
set_option linter.unusedSimpArgs false

attribute [simp] opS effS opQ effQ condS effE appE storeE dput
attribute [simp] gv
@[simp] theorem gd_t (x y : Prop) (b : Bool) : gd true x y (some (some b)) = ways b x y := by cases b <;> simp [gd]
@[simp] theorem gd_f (x y : Prop) (b : Bool) : gd false x y (some (some b)) = ways b y x := by cases b <;> simp [gd]
@[simp] theorem gd_s (x y : Prop) (want : Bool) : gd want x y (some none) = y := rfl
@[congr] theorem gd_congr {want : Bool} {x y : Prop} {v v' : Option (Option Bool)} (h : v = v') : gd want x y v = gd want x y v' := by rw [h]

@[simp] theorem gdS_tt (E : Env0) (A : Array Oper) (r : List Oper) (ks : List Fr) (Q : Exit → St → Prop) (env : List (Nat × VV)) (heap : List Root) (o : Oper) : gdS E A r ks Q env heap o true (some (some true)) = opS E A r ks Q env heap o (vpure E.T env heap o) := by simp [gdS]
@[simp] theorem gdS_tf (E : Env0) (A : Array Oper) (r : List Oper) (ks : List Fr) (Q : Exit → St → Prop) (env : List (Nat × VV)) (heap : List Root) (o : Oper) : gdS E A r ks Q env heap o true (some (some false)) = VS E (.ops A r :: ks) Q .normal (dput o.dst (.tup []) env) heap := by simp [gdS]
@[simp] theorem gdS_ff (E : Env0) (A : Array Oper) (r : List Oper) (ks : List Fr) (Q : Exit → St → Prop) (env : List (Nat × VV)) (heap : List Root) (o : Oper) : gdS E A r ks Q env heap o false (some (some false)) = opS E A r ks Q env heap o (vpure E.T env heap o) := by simp [gdS]
@[simp] theorem gdS_ft (E : Env0) (A : Array Oper) (r : List Oper) (ks : List Fr) (Q : Exit → St → Prop) (env : List (Nat × VV)) (heap : List Root) (o : Oper) : gdS E A r ks Q env heap o false (some (some true)) = VS E (.ops A r :: ks) Q .normal (dput o.dst (.tup []) env) heap := by simp [gdS]
@[simp] theorem gdS_s (E : Env0) (A : Array Oper) (r : List Oper) (ks : List Fr) (Q : Exit → St → Prop) (env : List (Nat × VV)) (heap : List Root) (o : Oper) (want : Bool) : gdS E A r ks Q env heap o want (some none) = VS E (.ops A r :: ks) Q .normal (dput o.dst (.tup []) env) heap := rfl
@[simp 500] theorem gdS_t (E : Env0) (A : Array Oper) (r : List Oper) (ks : List Fr) (Q : Exit → St → Prop) (env : List (Nat × VV)) (heap : List Root) (o : Oper) (b : Bool) : gdS E A r ks Q env heap o true (some (some b)) = ways b (opS E A r ks Q env heap o (vpure E.T env heap o)) (VS E (.ops A r :: ks) Q .normal (dput o.dst (.tup []) env) heap) := by cases b <;> simp [gdS]
@[simp 500] theorem gdS_f (E : Env0) (A : Array Oper) (r : List Oper) (ks : List Fr) (Q : Exit → St → Prop) (env : List (Nat × VV)) (heap : List Root) (o : Oper) (b : Bool) : gdS E A r ks Q env heap o false (some (some b)) = ways b (VS E (.ops A r :: ks) Q .normal (dput o.dst (.tup []) env) heap) (opS E A r ks Q env heap o (vpure E.T env heap o)) := by cases b <;> simp [gdS]
@[simp] theorem gdQ_tt (E : Env0) (A : Array Oper) (r : List Oper) (ks : List Fr) (Q : Exit → St → Prop) (env : List (Nat × VV)) (heap : List Root) (o : Oper) : gdQ E A r ks Q env heap o true (some (some true)) = opQ E A r ks Q env heap o (vpure E.T env heap o) := by simp [gdQ]
@[simp] theorem gdQ_tf (E : Env0) (A : Array Oper) (r : List Oper) (ks : List Fr) (Q : Exit → St → Prop) (env : List (Nat × VV)) (heap : List Root) (o : Oper) : gdQ E A r ks Q env heap o true (some (some false)) = VS E (.qops A r :: ks) Q .normal (dput o.dst (.tup []) env) heap := by simp [gdQ]
@[simp] theorem gdQ_ff (E : Env0) (A : Array Oper) (r : List Oper) (ks : List Fr) (Q : Exit → St → Prop) (env : List (Nat × VV)) (heap : List Root) (o : Oper) : gdQ E A r ks Q env heap o false (some (some false)) = opQ E A r ks Q env heap o (vpure E.T env heap o) := by simp [gdQ]
@[simp] theorem gdQ_ft (E : Env0) (A : Array Oper) (r : List Oper) (ks : List Fr) (Q : Exit → St → Prop) (env : List (Nat × VV)) (heap : List Root) (o : Oper) : gdQ E A r ks Q env heap o false (some (some true)) = VS E (.qops A r :: ks) Q .normal (dput o.dst (.tup []) env) heap := by simp [gdQ]
@[simp] theorem gdQ_s (E : Env0) (A : Array Oper) (r : List Oper) (ks : List Fr) (Q : Exit → St → Prop) (env : List (Nat × VV)) (heap : List Root) (o : Oper) (want : Bool) : gdQ E A r ks Q env heap o want (some none) = VS E (.qops A r :: ks) Q .normal (dput o.dst (.tup []) env) heap := rfl
@[simp 500] theorem gdQ_t (E : Env0) (A : Array Oper) (r : List Oper) (ks : List Fr) (Q : Exit → St → Prop) (env : List (Nat × VV)) (heap : List Root) (o : Oper) (b : Bool) : gdQ E A r ks Q env heap o true (some (some b)) = ways b (opQ E A r ks Q env heap o (vpure E.T env heap o)) (VS E (.qops A r :: ks) Q .normal (dput o.dst (.tup []) env) heap) := by cases b <;> simp [gdQ]
@[simp 500] theorem gdQ_f (E : Env0) (A : Array Oper) (r : List Oper) (ks : List Fr) (Q : Exit → St → Prop) (env : List (Nat × VV)) (heap : List Root) (o : Oper) (b : Bool) : gdQ E A r ks Q env heap o false (some (some b)) = ways b (VS E (.qops A r :: ks) Q .normal (dput o.dst (.tup []) env) heap) (opQ E A r ks Q env heap o (vpure E.T env heap o)) := by cases b <;> simp [gdQ]
section
variable {E : Env0} {Q : Exit → St → Prop} {σ : St} {ks : List Fr} {env : List (Nat × VV)} {heap : List Root}

theorem VW.loopE (hT : TOk E.P E.T) (hm : E.P.follows .mixedOrders = true) {c : Code} (hc : codeOk E.nt c = true) {ι : Type} (L : St → St → Prop) (S : ι → St) (hL : ∀ σ i, L σ (S i) → ∀ a w, Rel E.C E.B E.nt σ a w → Rel E.C E.B E.nt (S i) a w) (μ : ι → Nat) (i0 : ι) (h0 : L σ (S i0))
    (round : ∀ i, vwpE E c (fun e σ' => match e with
      | .normal => ∃ j, L σ' (S j) ∧ μ j < μ i
      | e => Q e σ') (S i)) : VW E (.loop c) Q σ := by
  intro a w hr b k cs
  have key : ∀ n i a w, μ i = n → Rel E.C E.B E.nt (S i) a w →
      ∃ e a' w', (∃ σ', Q e σ' ∧ Rel E.C E.B E.nt σ' a' w') ∧ Arrives E.P (lone (b.at a (.code c :: .inLoop c :: k)) cs w) b k cs e a' w' := by
    intro n
    induction n using Nat.strongRecOn with
    | _ n ih =>
      intro i a w hn hI
      obtain ⟨e, a₁, w₁, ⟨σ', hq, hr'⟩, harr⟩ := vwpE_ok hT hm c _ (S i) hc (round i) a w hI b (.inLoop c :: k) cs
      cases e with
      | normal =>
        obtain ⟨j, hj, hlt⟩ := hq
        obtain ⟨e₂, a₂, w₂, hq₂, harr₂⟩ := ih (μ j) (hn ▸ hlt) j a₁ w₁ rfl (hL _ _ hj _ _ hr')
        exact ⟨e₂, a₂, w₂, hq₂, .of_steps (Steps.trans harr (.one step_inLoop)) harr₂⟩
      | exit id => exact ⟨_, a₁, w₁, ⟨σ', hq, hr'⟩, .pass (x := .inLoop c) rfl (fun _ _ => .inl (by simp)) harr⟩
      | goto l => exact ⟨_, a₁, w₁, ⟨σ', hq, hr'⟩, .pass (x := .inLoop c) rfl (fun _ _ => .inl (by simp)) harr⟩
      | ret => exact ⟨_, a₁, w₁, ⟨σ', hq, hr'⟩, .pass (x := .inLoop c) rfl (fun _ _ => .inl (by simp)) harr⟩
      | panic ch => exact ⟨_, a₁, w₁, ⟨σ', hq, hr'⟩, .pass (x := .inLoop c) rfl (fun _ _ => .inl (by simp)) harr⟩
      | outgrown => exact ⟨_, a₁, w₁, ⟨σ', hq, hr'⟩, .pass (x := .inLoop c) rfl (fun _ _ => .inl (by simp)) harr⟩
  obtain ⟨e, a', w', hq, harr⟩ := key _ i0 a w rfl (hL _ _ h0 a w hr)
  exact ⟨e, a', w', hq, .of_steps (.one step_loop) harr⟩

/-- A loop: states in a row, each round nearer to the end. -/
theorem LoopK.rounds {c : Code} (hT : TOk E.P E.T) (hm : E.P.follows .mixedOrders = true) {ι : Type} (S : ι → St) (μ : ι → Nat) (i0 : ι) (hn : ∀ i, Nat.ble E.B.r.length (S i).heap.length = true) (h0 : stLe ⟨env, heap⟩ (S i0))
    (round : ∀ i, VS E (.code c :: .stop (fun σ' => ∃ j, stLe σ' (S j) ∧ μ j < μ i) :: ks) Q .normal (S i).env (S i).heap) : LoopK E c ks Q env heap := by
  intro hc
  refine VW.loopE hT hm hc stLe S (fun σ i h a w hr => hr.le (Nat.le_of_ble_eq_true (hn i)) h) μ i0 h0 fun i => ?_
  have h := round i
  simp only [VS_vk, vk] at h
  exact h

/-- A piece of code, and what is known behind it. -/
theorem VS.cut {c : Code} (hT : TOk E.P E.T) (hm : E.P.follows .mixedOrders = true) {ι : Type} (S : ι → St) (hn : ∀ i, Nat.ble E.B.r.length (S i).heap.length = true)
    (h1 : VS E [.code c, .stop (fun σ' => ∃ j, stLe σ' (S j))] (fun _ _ => False) .normal env heap) (h2 : ∀ i, VS E ks Q .normal (S i).env (S i).heap) {hc : codeOk E.nt c = true} : VW E c (vk E ks Q) ⟨env, heap⟩ := by
  rw [VS_vk] at h1
  intro a w hr
  refine wp_mono (vwpE_ok hT hm c _ _ hc h1 a w hr) fun e a' w' ⟨σ', h3, hr'⟩ => ?_
  cases e with
  | normal =>
    obtain ⟨j, hj⟩ := h3
    exact ⟨S j, by have h := h2 j; rw [VS_vk] at h; exact h, hr'.le (Nat.le_of_ble_eq_true (hn j)) hj⟩
  | _ => exact h3.elim

theorem CallK.mk {f : Nat} {args : List VV} {dst : Option Nat} {A : Array Oper} {r : List Oper} (h : VCall E.L E.P E.C f args heap fun c h => VS E (.ops A r :: ks) Q .normal (dput dst c env) h) : CallK E f args dst A r ks Q env heap := h

theorem CallK.to {f : Nat} {args : List VV} {dst : Option Nat} {A : Array Oper} {r : List Oper} {K : VV → List Root → Prop} (h : VCall E.L E.P E.C f args heap K) (hk : ∀ c h, K c h → VS E (.ops A r :: ks) Q .normal (dput dst c env) h) : CallK E f args dst A r ks Q env heap := h.mono hk

theorem CallK.pure {f : Nat} {args args' : List VV} {res : VV} {dst : Option Nat} {A : Array Oper} {r : List Oper} (h : PC E.L E.P f args' res) (ha : argVs heap args args') (hr : YtjldkpggcjolcaaV.noSl res = true ∨ args.all noRef = true)
    (hK : VS E (.ops A r :: ks) Q .normal (dput dst (adopt heap res).1 env) (adopt heap res).2) : CallK E f args dst A r ks Q env heap := VCall.pure h ha hr hK

theorem CallK.pureQ {f : Nat} {args args' : List VV} {Qr : VV → Prop} {dst : Option Nat} {A : Array Oper} {r : List Oper} (h : PCQ E.L E.P f args' Qr) (ha : argVs heap args args') (hr : (∀ res, Qr res → YtjldkpggcjolcaaV.noSl res = true) ∨ args.all noRef = true)
    (hK : ∀ res, Qr res → VS E (.ops A r :: ks) Q .normal (dput dst (adopt heap res).1 env) (adopt heap res).2) : CallK E f args dst A r ks Q env heap := VCall.pureQ h ha hr hK

theorem QCallK.pure {f : Nat} {args args' : List VV} {c : VV} {v0 : Value} {dst : Option Nat} {A : Array Oper} {r : List Oper} (h : PC E.L E.P f args' c) (ha : argVs heap args args') (hs : Sc c v0) (hc : c ≠ .err)
    (hK : VS E (.qops A r :: ks) Q .normal (dput dst c env) heap) : QCallK E f args dst A r ks Q env heap := ⟨c, QCall.pure h ha hs hc, hK⟩
end

theorem PC.intro {L : Low} {P : Program} {T : Tbl} {f nt : Nat} {fn : Func} {c : Code} {rs : List ResultVar} {args : List VV} {res : VV} (hT : TOk P T) (hm : P.follows .mixedOrders = true) (hf : P.funcs[f]? = some fn) (hc : fn.body = some c) (hnt : fn.ntmps = nt)
    (hn : (fn.name == "runtime.NumGoroutine") = false) (hrs : fn.results = rs.toArray) (hlen0 : Nat.ble args.length nt = true) (hcode : codeOk nt c = true)
    (h : ∀ C sn A g F w hG, VS ⟨P, T, C, ⟨[.frame sn A], g, F, w⟩, nt, L, hG⟩ [.code c] (post T (.frame sn A) rs res) .normal (initEnv 0 args) [.frame sn A]) : PC L P f args res :=
  PC.introW hT hm hf hc hnt hn hrs hlen0 hcode fun C sn A g F w hG => vwpE_ok hT hm c _ _ hcode (by have h := h C sn A g F w hG; rw [VS_vk] at h; exact h)

theorem PCQ.intro {L : Low} {P : Program} {T : Tbl} {f nt : Nat} {fn : Func} {c : Code} {rs : List ResultVar} {args : List VV} {Qr : VV → Prop} (hT : TOk P T) (hm : P.follows .mixedOrders = true) (hf : P.funcs[f]? = some fn) (hc : fn.body = some c) (hnt : fn.ntmps = nt)
    (hn : (fn.name == "runtime.NumGoroutine") = false) (hrs : fn.results = rs.toArray) (hlen0 : Nat.ble args.length nt = true) (hcode : codeOk nt c = true)
    (h : ∀ C sn A g F w hG, VS ⟨P, T, C, ⟨[.frame sn A], g, F, w⟩, nt, L, hG⟩ [.code c] (fun e σ => ∃ res, Qr res ∧ post T (.frame sn A) rs res e σ) .normal (initEnv 0 args) [.frame sn A]) : PCQ L P f args Qr :=
  PCQ.introW hT hm hf hc hnt hn hrs hlen0 hcode fun C sn A g F w hG => vwpE_ok hT hm c _ _ hcode (by have h := h C sn A g F w hG; rw [VS_vk] at h; exact h)

theorem VCall.inline {L : Low} {P : Program} {T : Tbl} {C : Cx} {f nt : Nat} {fn : Func} {c : Code} {rs : List ResultVar} {args : List VV} {roots : List Root} {K : VV → List Root → Prop} (hT : TOk P T) (hm : P.follows .mixedOrders = true)
    (hf : P.funcs[f]? = some fn) (hc : fn.body = some c) (hnt : fn.ntmps = nt) (hn : (fn.name == "runtime.NumGoroutine") = false) (hrs : fn.results = rs.toArray) (hlen0 : Nat.ble args.length nt = true) (hcode : codeOk nt c = true)
    (h : ∀ g F w hG, VS ⟨P, T, C, ⟨roots, g, F, w⟩, nt, L, hG⟩ [.code c] (postK T rs K) .normal (initEnv 0 args) roots) : VCall L P C f args roots K :=
  VCall.inlineW hT hm hf hc hnt hn hrs hlen0 hcode fun g F w hG => vwpE_ok hT hm c _ _ hcode (by have h := h g F w hG; rw [VS_vk] at h; exact h)

/-- What a call leaves behind may be forgotten. -/
theorem VCall.trim {L : Low} {P : Program} {C : Cx} {f : Nat} {args : List VV} {roots : List Root} {K K' : VV → List Root → Prop} (h : VCall L P C f args roots K')
    (hk : ∀ c R', K' c R' → ∃ R, hLe R' R ∧ heapRefs R.length R = true ∧ refsLt R.length c = true ∧ roots.length ≤ R.length ∧ K c R) : VCall L P C f args roots K := by
  refine ⟨h.1, fun hG gh Fk w vs hx hv => (h.2 hG gh Fk w vs hx hv).mono fun e w' ⟨v, c, roots', gh', Fk', he, hK, hx', hext, hu⟩ => ?_⟩
  obtain ⟨R, h1, h2, h3, h4, h5⟩ := hk c roots' hK
  obtain ⟨hx2, hok⟩ := hx'.weak h1 h2
  exact ⟨v, c, R, gh', _, he, h5, hx2, Ext.weak (B := ⟨roots, gh, Fk, w⟩) hext hx' h1 h2 h4, VRs.weak hu h1 hok (by simp [refsLts, h3])⟩
end Go.Proofs.YtjldkpggcjolcaaV
