/- One root changes, all else stays. Conditions: those of each theorem. -/
import Derived.Test.YtjldkpggcjolcaaV9
namespace Go.Proofs.YtjldkpggcjolcaaV
set_option linter.unusedVariables false
set_option linter.unusedSimpArgs false

/-- From one abstract heap to the next: what was known in slots is known. -/
structure Ext (roots : List Root) (gh : Nat → Gh) (Fk : Nat → List Nat) (X : List Nat) (w : World) (roots' : List Root) (gh' : Nat → Gh) (Fk' : Nat → List Nat) (X' : List Nat) (w' : World) : Prop where
  compat : Compat roots roots' gh gh'
  keep : ∀ tag, tagOk roots' tag = true → tagOk roots tag = true → ∀ b, okF w roots Fk X tag b → okF w' roots' Fk' X' tag b ∧ w'.heap[b]? = w.heap[b]?

section
variable {C : Cx} {roots roots' roots'' : List Root} {gh gh' gh'' : Nat → Gh} {Fk Fk' Fk'' : Nat → List Nat} {X X' X'' : List Nat} {w w' w'' : World}

theorem Ext.refl : Ext roots gh Fk X w roots gh Fk X w := ⟨.refl _ _, fun _ _ _ _ h => ⟨h, rfl⟩⟩

theorem Ext.vrs (h : Ext roots gh Fk X w roots' gh' Fk' X' w') {cs : List VV} {vs : List Value} (hv : VRs (okF w roots Fk X) w roots gh cs vs) : VRs (okF w' roots' Fk' X') w' roots' gh' cs vs :=
  hv.mono h.compat h.keep

theorem Ext.env (h : Ext roots gh Fk X w roots' gh' Fk' X' w') {env : List (Nat × VV)} {tmps : Array Value} (hv : EnvR (okF w roots Fk X) w roots gh env tmps) : EnvR (okF w' roots' Fk' X') w' roots' gh' env tmps :=
  fun t => h.vrs (hv t)

theorem Compat.trans (h : Compat roots roots' gh gh') (h' : Compat roots' roots'' gh' gh'') : Compat roots roots'' gh gh'' := by
  refine ⟨Nat.le_trans h.len h'.len, fun k cells hk hr => ?_, fun k g own sz rows hk hr => ?_⟩
  · obtain ⟨⟨c1, h1⟩, e1⟩ := h'.box k cells (Nat.lt_of_lt_of_le hk h.len) hr
    obtain ⟨h2, e2⟩ := h.box k c1 hk h1
    exact ⟨h2, e1.trans e2⟩
  · obtain ⟨g1, o1, s1, r1, h1, hl1, e1⟩ := h'.arr k g own sz rows (Nat.lt_of_lt_of_le hk h.len) hr
    obtain ⟨g2, o2, s2, r2, h2, hl2, e2⟩ := h.arr k g1 o1 s1 r1 hk h1
    exact ⟨g2, o2, s2, r2, h2, by omega, fun e => by
      have a1 : g1 = g := by omega
      have a2 : g2 = g1 := by omega
      rw [e1 a1, e2 a2]⟩

theorem Compat.tagMid (h : Compat roots roots' gh gh') (h' : Compat roots' roots'' gh' gh'') {tag : Option (Nat × Nat)} (h1 : tagOk roots tag = true) (h2 : tagOk roots'' tag = true) : tagOk roots' tag = true := by
  cases tag with
  | none => rfl
  | some x =>
    obtain ⟨k, g⟩ := x
    simp only [tagOk] at h1 h2 ⊢
    split at h1
    · rename_i g1 o1 s1 r1 hr1
      split at h2
      · rename_i g2 o2 s2 r2 hr2
        have e1 : g = g1 := by simpa using h1
        have e2 : g = g2 := by simpa using h2
        subst e1; subst e2
        have hk : k < roots.length := (List.getElem?_eq_some_iff.1 hr1).1
        obtain ⟨g3, o3, s3, r3, hr3, hl3, _⟩ := h'.arr k g o2 s2 r2 (Nat.lt_of_lt_of_le hk h.len) hr2
        obtain ⟨g4, o4, s4, r4, hr4, hl4, _⟩ := h.arr k g3 o3 s3 r3 hk hr3
        rw [hr1] at hr4
        cases hr4
        have : g3 = g := by omega
        subst this
        simp [hr3]
      · cases h2
    · cases h1

theorem Ext.trans (h : Ext roots gh Fk X w roots' gh' Fk' X' w') (h' : Ext roots' gh' Fk' X' w' roots'' gh'' Fk'' X'' w'') : Ext roots gh Fk X w roots'' gh'' Fk'' X'' w'' :=
  ⟨h.compat.trans h'.compat, fun tag t2 t0 b hb => by
    have t1 := h.compat.tagMid h'.compat t0 t2
    obtain ⟨a1, b1⟩ := h.keep tag t1 t0 b hb
    obtain ⟨a2, b2⟩ := h'.keep tag t2 t1 b a1
    exact ⟨a2, b2.trans b1⟩⟩

theorem HR1.mono {ok ok' : Option (Nat × Nat) → Nat → Prop} {g0 : Gh} {R : Root} {F : List Nat} (h : HR1 ok w roots gh g0 R F) (hF : ∀ b ∈ F, w'.heap[b]? = w.heap[b]?)
    (hc : Compat roots roots' gh gh') (hb : ∀ tag, tagOk roots' tag = true → tagOk roots tag = true → ∀ b, ok tag b → ok' tag b ∧ w'.heap[b]? = w.heap[b]?) : HR1 ok' w' roots' gh' g0 R F := by
  cases h with
  | dead => exact .dead
  | frame snap F h => exact .frame snap F fun b hb => (hF b hb).trans (h b hb)
  | box cells cur T fr hbl hf h h1 => exact .box cells cur T fr (by rw [hF _ (by simp)]; exact hbl) hf (h.mono hc hb) h1
  | none0 g own hz hc => exact .none0 g own hz hc
  | own g rows cur e fr F hz hbl hf hs hn hm hsz h =>
    exact .own g rows cur e fr F hz (by rw [hF _ (by simp)]; exact hbl) hf hs hn hm hsz (h.mono fun b hb' => hF b (by simp [hb']))
  | shared g rows cur e fr hz hbl hf hs hn hm hsz h => exact .shared g rows cur e fr hz (by rw [hF _ (by simp)]; exact hbl) hf hs hn hm hsz (h.mono (hb none rfl rfl))

/-- What a change of one root has to keep. -/
structure Chg (C : Cx) (roots : List Root) (gh : Nat → Gh) (Fk : Nat → List Nat) (X : List Nat) (w : World) (k0 : Nat) (roots' : List Root) (R' : Root) (g' : Gh) (F' X' : List Nat) (W : List Nat) (w' : World) : Prop where
  kept : Kept C w'
  le : roots.length ≤ roots'.length
  at' : roots'[k0]? = some R'
  other : ∀ k, k ≠ k0 → roots'[k]? = roots[k]?
  size : w.heap.size ≤ w'.heap.size
  same : ∀ b, b < w.heap.size → b ∉ W → w'.heap[b]? = w.heap[b]?
  wr : ∀ b ∈ W, (k0 < roots.length ∧ b ∈ Fk k0) ∨ b ∈ X
  sub : ∀ b ∈ F' ++ X', (k0 < roots.length ∧ b ∈ Fk k0) ∨ b ∈ X ∨ w.heap.size ≤ b
  nd : (F' ++ X').Nodup
  lt : ∀ b ∈ F' ++ X', b < w'.heap.size
  cbox : ∀ cells, R' = .box cells → k0 < roots.length → (∃ c0, roots[k0]? = some (.box c0)) ∧ g' = gh k0
  carr : ∀ g own sz rows, R' = .arr g own sz rows → k0 < roots.length → ∃ g0 own0 sz0 rows0, roots[k0]? = some (.arr g0 own0 sz0 rows0) ∧ g0 ≤ g ∧
    (g0 = g → g' = gh k0 ∧ ∀ b ∈ (Fk k0).tail, b ∈ F'.tail ∧ b ∉ W)

def upd {α : Type} (f : Nat → α) (k : Nat) (x : α) : Nat → α := fun j => if j = k then x else f j

theorem upd_same {α : Type} (f : Nat → α) (k : Nat) (x : α) : upd f k x k = x := by simp [upd]
theorem upd_other {α : Type} (f : Nat → α) {j k : Nat} (x : α) (h : j ≠ k) : upd f k x j = f j := by simp [upd, h]

theorem HX.ext (h : HX C roots gh Fk X w) {k0 : Nat} {R' : Root} {g' : Gh} {F' : List Nat} {W : List Nat} (c : Chg C roots gh Fk X w k0 roots' R' g' F' X' W w') (hk0 : k0 ≤ roots.length) :
    Ext roots gh Fk X w roots' (upd gh k0 g') (upd Fk k0 F') X' w' := by
  have hlt0 : k0 < roots.length → ∃ R, roots[k0]? = some R := fun hl => ⟨_, List.getElem?_eq_getElem hl⟩
  refine ⟨⟨c.le, fun k cells hk hr => ?_, fun k g own sz rows hk hr => ?_⟩, fun tag t1 t0 b hb => ?_⟩
  · by_cases e : k = k0
    · subst e
      rw [c.at'] at hr; cases hr
      rw [upd_same]
      exact c.cbox _ rfl hk
    · rw [upd_other _ _ e, ← c.other k e]
      exact ⟨⟨cells, hr⟩, rfl⟩
  · by_cases e : k = k0
    · subst e
      rw [c.at'] at hr; cases hr
      obtain ⟨g0, o0, s0, r0, h1, h2, h3⟩ := c.carr g own sz rows rfl hk
      rw [upd_same]
      exact ⟨g0, o0, s0, r0, h1, h2, fun e => (h3 e).1⟩
    · rw [upd_other _ _ e, ← c.other k e]
      exact ⟨g, own, sz, rows, hr, Nat.le_refl _, fun _ => rfl⟩
  · cases tag with
    | none =>
      obtain ⟨hlt, hX, hF⟩ := hb
      have hW : b ∉ W := fun hw => by
        rcases c.wr b hw with ⟨hl, hb'⟩ | hb'
        · obtain ⟨R, hR⟩ := hlt0 hl; exact hF k0 R hR hb'
        · exact hX hb'
      have hFX : b ∉ F' ++ X' := fun hm => by
        rcases c.sub b hm with ⟨hl, hb'⟩ | hb' | hb'
        · obtain ⟨R, hR⟩ := hlt0 hl; exact hF k0 R hR hb'
        · exact hX hb'
        · omega
      refine ⟨⟨Nat.lt_of_lt_of_le hlt c.size, fun hm => hFX (by simp [hm]), fun k R hk hm => ?_⟩, c.same b hlt hW⟩
      by_cases e : k = k0
      · subst e; rw [upd_same] at hm; exact hFX (by simp [hm])
      · rw [upd_other _ _ e] at hm; rw [c.other k e] at hk; exact hF k R hk hm
    | some x =>
      obtain ⟨k, g⟩ := x
      obtain ⟨hlt, hb'⟩ := hb
      by_cases e : k = k0
      · subst e
        simp only [tagOk] at t0 t1
        rw [c.at'] at t1
        split at t1
        · rename_i g1 o1 s1 r1 hr1
          cases hr1
          have e1 : g = g1 := by simpa using t1
          subst e1
          split at t0
          · rename_i g2 o2 s2 r2 hr2
            have e2 : g = g2 := by simpa using t0
            subst e2
            obtain ⟨g0, o0, s0, r0, h1, h2, h3⟩ := c.carr g o1 s1 r1 rfl (List.getElem?_eq_some_iff.1 hr2).1
            rw [hr2] at h1
            cases h1
            obtain ⟨_, h4⟩ := h3 rfl
            exact ⟨⟨Nat.lt_of_lt_of_le hlt c.size, by rw [upd_same]; exact (h4 b hb').1⟩, c.same b hlt (h4 b hb').2⟩
          · cases t0
        · cases t1
      · refine ⟨⟨Nat.lt_of_lt_of_le hlt c.size, by rw [upd_other _ _ e]; exact hb'⟩, c.same b hlt fun hw => ?_⟩
        have hbm : b ∈ Fk k := List.mem_of_mem_tail hb'
        simp only [tagOk] at t0
        split at t0
        · rename_i g2 o2 s2 r2 hr2
          rcases c.wr b hw with ⟨hl, hb2⟩ | hb2
          · obtain ⟨R, hR⟩ := hlt0 hl
            exact h.apart k k0 _ R hr2 hR e b hbm hb2
          · exact h.heldA k _ hr2 b hbm hb2
        · cases t0

/-- One root has changed, or a new one has come. -/
theorem HX.step (h : HX C roots gh Fk X w) {k0 : Nat} {R' : Root} {g' : Gh} {F' : List Nat} {W : List Nat} (c : Chg C roots gh Fk X w k0 roots' R' g' F' X' W w') (hk0 : k0 ≤ roots.length)
    (hone : HR1 (okF w' roots' (upd Fk k0 F') X') w' roots' (upd gh k0 g') g' R' F') : HX C roots' (upd gh k0 g') (upd Fk k0 F') X' w' := by
  have hx := h.ext c hk0
  have hlt0 : k0 < roots.length → ∃ R, roots[k0]? = some R := fun hl => ⟨_, List.getElem?_eq_getElem hl⟩
  have hnd := List.nodup_append.1 c.nd
  have mine0 : ∀ b ∈ F' ++ X', b < w'.heap.size ∧ (C.w0.heap.size ≤ b ∨ b ∈ C.F0) := fun b hb => ⟨c.lt b hb, by
    rcases c.sub b hb with ⟨hl, hb'⟩ | hb' | hb'
    · obtain ⟨R, hR⟩ := hlt0 hl; exact (h.mine k0 R hR b hb').2
    · exact (h.heldM b hb').2
    · exact .inl (Nat.le_trans h.kept.size hb')⟩
  have apart0 : ∀ k R, k ≠ k0 → roots[k]? = some R → ∀ b ∈ Fk k, b ∉ F' ++ X' := fun k R e hR b hb hm => by
    rcases c.sub b hm with ⟨hl, hb'⟩ | hb' | hb'
    · obtain ⟨R0, hR0⟩ := hlt0 hl; exact h.apart k k0 R R0 hR hR0 e b hb hb'
    · exact h.heldA k R hR b hb hb'
    · have := (h.mine k R hR b hb).1; omega
  refine ⟨c.kept, fun k R hR => ?_, fun k R hR => ?_, fun k l R S hR hS hkl b hb hb' => ?_, fun k R hR b hb => ?_, hnd.2.1, fun k R hR b hb hb' => ?_, fun b hb => mine0 b (by simp [hb])⟩
  · by_cases e : k = k0
    · subst e
      rw [c.at'] at hR; cases hR
      rw [upd_same, upd_same]; exact hone
    · rw [upd_other _ _ e, upd_other _ _ e]
      rw [c.other k e] at hR
      refine (h.one k R hR).mono (fun b hb => c.same b (h.mine k R hR b hb).1 fun hw => ?_) hx.compat hx.keep
      rcases c.wr b hw with ⟨hl, hb2⟩ | hb2
      · obtain ⟨R0, hR0⟩ := hlt0 hl
        exact h.apart k k0 R R0 hR hR0 e b hb hb2
      · exact h.heldA k R hR b hb hb2
  · by_cases e : k = k0
    · subst e; rw [upd_same]; exact hnd.1
    · rw [upd_other _ _ e]; rw [c.other k e] at hR; exact h.nodup k R hR
  · by_cases e : k = k0
    · subst e
      rw [upd_same] at hb
      rw [upd_other _ _ (Ne.symm hkl)] at hb'
      rw [c.other l (Ne.symm hkl)] at hS
      exact apart0 l S (Ne.symm hkl) hS b hb' (by simp [hb])
    · rw [upd_other _ _ e] at hb
      rw [c.other k e] at hR
      by_cases e2 : l = k0
      · subst e2
        rw [upd_same] at hb'
        exact apart0 k R e hR b hb (by simp [hb'])
      · rw [upd_other _ _ e2] at hb'
        rw [c.other l e2] at hS
        exact h.apart k l R S hR hS hkl b hb hb'
  · by_cases e : k = k0
    · subst e; rw [upd_same] at hb; exact mine0 b (by simp [hb])
    · rw [upd_other _ _ e] at hb; rw [c.other k e] at hR
      have := h.mine k R hR b hb
      exact ⟨Nat.lt_of_lt_of_le this.1 c.size, this.2⟩
  · by_cases e : k = k0
    · subst e; rw [upd_same] at hb; exact hnd.2.2 b hb b hb' rfl
    · rw [upd_other _ _ e] at hb; rw [c.other k e] at hR; exact apart0 k R e hR b hb (by simp [hb'])
end
end Go.Proofs.YtjldkpggcjolcaaV
