/- Rules of the walk: loops, calls, contracts. Conditions: the table of types fits the program. -/
import Derived.Test.YtjldkpggcjolcaaV32
namespace Go.Proofs.YtjldkpggcjolcaaV
set_option linter.unusedVariables false
set_option linter.unusedSimpArgs false

attribute [simp] opS effS opQ effQ condS effE appE storeE dput
attribute [simp] gv
@[simp] theorem gd_t (x y : Prop) (b : Bool) : gd true x y (some (some b)) = ways b x y := by cases b <;> simp [gd]
@[simp] theorem gd_f (x y : Prop) (b : Bool) : gd false x y (some (some b)) = ways b y x := by cases b <;> simp [gd]
@[simp] theorem gd_s (x y : Prop) (want : Bool) : gd want x y (some none) = y := rfl
@[congr] theorem gd_congr {want : Bool} {x y : Prop} {v v' : Option (Option Bool)} (h : v = v') : gd want x y v = gd want x y v' := by rw [h]

section
variable {E : Env0} {Q : Exit → St → Prop} {σ : St} {ks : List Fr} {env : List (Nat × VV)} {heap : List Root}

theorem VW.loopE (hT : TOk E.P E.T) (hm : E.P.follows .mixedOrders = true) {c : Code} (hc : codeOk E.nt c = true) {ι : Type} (L : St → St → Prop) (S : ι → St) (hL : ∀ σ i, L σ (S i) → ∀ a w, Rel E.C E.B E.nt σ a w → Rel E.C E.B E.nt (S i) a w) (μ : ι → Nat) (i0 : ι) (h0 : L σ (S i0))
    (round : ∀ i, vwpE E c (fun e σ' => match e with
      | .normal => ∃ j, L σ' (S j) ∧ μ j < μ i
      | e => Q e σ') (S i)) : VW E (.loop c) Q σ := by
  intro a w hr b k cs
  have key : ∀ n i a w, μ i = n → Rel E.C E.B E.nt (S i) a w →
      ∃ e a' w', (∃ σ', Q e σ' ∧ Rel E.C E.B E.nt σ' a' w') ∧ Arrives E.P (lone (b.at a (.code c :: .inLoop c :: k)) cs w) b k cs e a' w' := by
    intro n
    induction n using Nat.strongRecOn with
    | _ n ih =>
      intro i a w hn hI
      obtain ⟨e, a₁, w₁, ⟨σ', hq, hr'⟩, harr⟩ := vwpE_ok hT hm c _ (S i) hc (round i) a w hI b (.inLoop c :: k) cs
      cases e with
      | normal =>
        obtain ⟨j, hj, hlt⟩ := hq
        obtain ⟨e₂, a₂, w₂, hq₂, harr₂⟩ := ih (μ j) (hn ▸ hlt) j a₁ w₁ rfl (hL _ _ hj _ _ hr')
        exact ⟨e₂, a₂, w₂, hq₂, .of_steps (Steps.trans harr (.one step_inLoop)) harr₂⟩
      | exit id => exact ⟨_, a₁, w₁, ⟨σ', hq, hr'⟩, .pass (x := .inLoop c) rfl (fun _ _ => .inl (by simp)) harr⟩
      | goto l => exact ⟨_, a₁, w₁, ⟨σ', hq, hr'⟩, .pass (x := .inLoop c) rfl (fun _ _ => .inl (by simp)) harr⟩
      | ret => exact ⟨_, a₁, w₁, ⟨σ', hq, hr'⟩, .pass (x := .inLoop c) rfl (fun _ _ => .inl (by simp)) harr⟩
      | panic ch => exact ⟨_, a₁, w₁, ⟨σ', hq, hr'⟩, .pass (x := .inLoop c) rfl (fun _ _ => .inl (by simp)) harr⟩
      | outgrown => exact ⟨_, a₁, w₁, ⟨σ', hq, hr'⟩, .pass (x := .inLoop c) rfl (fun _ _ => .inl (by simp)) harr⟩
  obtain ⟨e, a', w', hq, harr⟩ := key _ i0 a w rfl (hL _ _ h0 a w hr)
  exact ⟨e, a', w', hq, .of_steps (.one step_loop) harr⟩

/-- A loop: states in a row, each round nearer to the end. -/
theorem LoopK.rounds {c : Code} (hT : TOk E.P E.T) (hm : E.P.follows .mixedOrders = true) {ι : Type} (S : ι → St) (μ : ι → Nat) (i0 : ι) (hn : ∀ i, Nat.ble E.B.r.length (S i).heap.length = true) (h0 : stLe ⟨env, heap⟩ (S i0))
    (round : ∀ i, VS E (.code c :: .stop (fun σ' => ∃ j, stLe σ' (S j) ∧ μ j < μ i) :: ks) Q .normal (S i).env (S i).heap) : LoopK E c ks Q env heap := by
  intro hc
  refine VW.loopE hT hm hc stLe S (fun σ i h a w hr => hr.le (Nat.le_of_ble_eq_true (hn i)) h) μ i0 h0 fun i => ?_
  have h := round i
  simp only [VS_vk, vk] at h
  exact h

/-- A piece of code, and what is known behind it. -/
theorem VS.cut {c : Code} (hT : TOk E.P E.T) (hm : E.P.follows .mixedOrders = true) {ι : Type} (S : ι → St) (hn : ∀ i, Nat.ble E.B.r.length (S i).heap.length = true)
    (h1 : VS E [.code c, .stop (fun σ' => ∃ j, stLe σ' (S j))] (fun _ _ => False) .normal env heap) (h2 : ∀ i, VS E ks Q .normal (S i).env (S i).heap) {hc : codeOk E.nt c = true} : VW E c (vk E ks Q) ⟨env, heap⟩ := by
  rw [VS_vk] at h1
  intro a w hr
  refine wp_mono (vwpE_ok hT hm c _ _ hc h1 a w hr) fun e a' w' ⟨σ', h3, hr'⟩ => ?_
  cases e with
  | normal =>
    obtain ⟨j, hj⟩ := h3
    exact ⟨S j, by have h := h2 j; rw [VS_vk] at h; exact h, hr'.le (Nat.le_of_ble_eq_true (hn j)) hj⟩
  | _ => exact h3.elim

theorem CallK.mk {f : Nat} {args : List VV} {dst : Option Nat} {A : Array Oper} {r : List Oper} (h : VCall E.L E.P E.C f args heap fun c h => VS E (.ops A r :: ks) Q .normal (dput dst c env) h) : CallK E f args dst A r ks Q env heap := h

theorem CallK.to {f : Nat} {args : List VV} {dst : Option Nat} {A : Array Oper} {r : List Oper} {K : VV → List Root → Prop} (h : VCall E.L E.P E.C f args heap K) (hk : ∀ c h, K c h → VS E (.ops A r :: ks) Q .normal (dput dst c env) h) : CallK E f args dst A r ks Q env heap := h.mono hk

theorem CallK.pure {f : Nat} {args args' : List VV} {res : VV} {dst : Option Nat} {A : Array Oper} {r : List Oper} (h : PC E.L E.P f args' res) (ha : argVs heap args args') (hr : YtjldkpggcjolcaaV.noSl res = true ∨ args.all noRef = true)
    (hK : VS E (.ops A r :: ks) Q .normal (dput dst (adopt heap res).1 env) (adopt heap res).2) : CallK E f args dst A r ks Q env heap := VCall.pure h ha hr hK

theorem QCallK.pure {f : Nat} {args args' : List VV} {c : VV} {v0 : Value} {dst : Option Nat} {A : Array Oper} {r : List Oper} (h : PC E.L E.P f args' c) (ha : argVs heap args args') (hs : Sc c v0) (hc : c ≠ .err)
    (hK : VS E (.qops A r :: ks) Q .normal (dput dst c env) heap) : QCallK E f args dst A r ks Q env heap := ⟨c, QCall.pure h ha hs hc, hK⟩
end

theorem PC.intro {L : Low} {P : Program} {T : Tbl} {f nt : Nat} {fn : Func} {c : Code} {rs : List ResultVar} {args : List VV} {res : VV} (hT : TOk P T) (hm : P.follows .mixedOrders = true) (hf : P.funcs[f]? = some fn) (hc : fn.body = some c) (hnt : fn.ntmps = nt)
    (hn : (fn.name == "runtime.NumGoroutine") = false) (hrs : fn.results = rs.toArray) (hlen0 : Nat.ble args.length nt = true) (hcode : codeOk nt c = true)
    (h : ∀ C sn A g F w hG, VS ⟨P, T, C, ⟨[.frame sn A], g, F, w⟩, nt, L, hG⟩ [.code c] (post T (.frame sn A) rs res) .normal (initEnv 0 args) [.frame sn A]) : PC L P f args res :=
  PC.introW hT hm hf hc hnt hn hrs hlen0 hcode fun C sn A g F w hG => vwpE_ok hT hm c _ _ hcode (by have h := h C sn A g F w hG; rw [VS_vk] at h; exact h)

theorem VCall.inline {L : Low} {P : Program} {T : Tbl} {C : Cx} {f nt : Nat} {fn : Func} {c : Code} {rs : List ResultVar} {args : List VV} {roots : List Root} {K : VV → List Root → Prop} (hT : TOk P T) (hm : P.follows .mixedOrders = true)
    (hf : P.funcs[f]? = some fn) (hc : fn.body = some c) (hnt : fn.ntmps = nt) (hn : (fn.name == "runtime.NumGoroutine") = false) (hrs : fn.results = rs.toArray) (hlen0 : Nat.ble args.length nt = true) (hcode : codeOk nt c = true)
    (h : ∀ g F w hG, VS ⟨P, T, C, ⟨roots, g, F, w⟩, nt, L, hG⟩ [.code c] (postK T rs K) .normal (initEnv 0 args) roots) : VCall L P C f args roots K :=
  VCall.inlineW hT hm hf hc hnt hn hrs hlen0 hcode fun g F w hG => vwpE_ok hT hm c _ _ hcode (by have h := h g F w hG; rw [VS_vk] at h; exact h)
end Go.Proofs.YtjldkpggcjolcaaV
