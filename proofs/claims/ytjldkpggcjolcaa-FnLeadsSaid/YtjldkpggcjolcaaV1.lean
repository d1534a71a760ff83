/- What stays of the abstract relations when the world or the roots change. Conditions: those of each theorem. -/
import Derived.Test.YtjldkpggcjolcaaV0
namespace Go.Proofs.YtjldkpggcjolcaaV
set_option linter.unusedVariables false

theorem Sc.one {c : VV} {v : Value} (h : Sc c v) : v.oneCell' = true := by cases h <;> rfl

/-- Lists of such. -/
inductive Scs : List VV → List Value → Prop
  | nil : Scs [] []
  | cons {c v cs vs} (h : Sc c v) (t : Scs cs vs) : Scs (c :: cs) (v :: vs)

theorem Scs.one {cs : List VV} {vs : List Value} (h : Scs cs vs) : ∀ u ∈ vs, u.oneCell' = true := by
  induction h with
  | nil => simp
  | cons h _ ih => intro u hu; cases hu with
    | head => exact h.one
    | tail _ hu => exact ih u hu

theorem Scs.vrs {ok : Option (Nat × Nat) → Nat → Prop} {w : World} {roots : List Root} {gh : Nat → Gh} {cs : List VV} {vs : List Value} (h : Scs cs vs) : VRs ok w roots gh cs vs := by
  induction h with
  | nil => exact .nil
  | cons h _ ih => exact .sc h ih

theorem Scs.ro {ok : Nat → Prop} {w : World} {cs : List VV} {vs : List Value} (h : Scs cs vs) : RO ok w cs vs := by
  induction h with
  | nil => exact .nil
  | cons h _ ih => exact .sc h ih

theorem Scs.ows {w : World} {cs : List VV} {vs : List Value} (h : Scs cs vs) : OWs w cs vs [] := by
  induction h with
  | nil => exact .nil
  | cons h _ ih => exact .sc h ih

theorem Scs.app {as bs : List VV} {us vs : List Value} (h : Scs as us) (h' : Scs bs vs) : Scs (as ++ bs) (us ++ vs) := by
  induction h with
  | nil => exact h'
  | cons h _ ih => exact .cons h ih

theorem Scs.length {cs : List VV} {vs : List Value} (h : Scs cs vs) : vs.length = cs.length := by
  induction h <;> simp_all

theorem RO.one {ok : Nat → Prop} {w : World} {cs : List VV} {vs : List Value} (h : RO ok w cs vs) : ∀ u ∈ vs, u.oneCell' = true := by
  induction h with
  | nil => simp
  | sc h _ ih => intro u hu; cases hu with
    | head => exact h.one
    | tail _ hu => exact ih u hu
  | tr0 sz a cap _ ih => intro u hu; cases hu with
    | head => rfl
    | tail _ hu => exact ih u hu
  | tr rows b off cap sz cells hok hsz hc hcap h _ _ ih => intro u hu; cases hu with
    | head => rfl
    | tail _ hu => exact ih u hu

theorem RO.length {ok : Nat → Prop} {w : World} {cs : List VV} {vs : List Value} (h : RO ok w cs vs) : vs.length = cs.length := by
  induction h <;> simp_all

theorem RO.mono {ok ok' : Nat → Prop} {w w' : World} {cs : List VV} {vs : List Value} (h : RO ok w cs vs)
    (hb : ∀ b, ok b → ok' b ∧ w'.heap[b]? = w.heap[b]?) : RO ok' w' cs vs := by
  induction h with
  | nil => exact .nil
  | sc h _ ih => exact .sc h ih
  | tr0 sz a cap _ ih => exact .tr0 sz a cap ih
  | tr rows b off cap sz cells hok hsz hc hcap _ _ ih1 ih2 =>
    exact .tr rows b off cap sz cells (hb b hok).1 hsz (fun q u hu => by rw [World.cell?_of_block (w := w) (hb b hok).2]; exact hc q u hu) hcap ih1 ih2

theorem OWs.one {w : World} {cs : List VV} {vs : List Value} {F : List Nat} (h : OWs w cs vs F) : ∀ u ∈ vs, u.oneCell' = true := by
  induction h with
  | nil => simp
  | sc h _ ih => intro u hu; cases hu with
    | head => exact h.one
    | tail _ hu => exact ih u hu
  | tr0 sz _ ih => intro u hu; cases hu with
    | head => rfl
    | tail _ hu => exact ih u hu
  | tr rows b cap sz cur e fr F hb hf hs hn hm hsz h _ _ ih => intro u hu; cases hu with
    | head => rfl
    | tail _ hu => exact ih u hu

theorem OWs.length {w : World} {cs : List VV} {vs : List Value} {F : List Nat} (h : OWs w cs vs F) : vs.length = cs.length := by
  induction h <;> simp_all

theorem OWs.mono {w w' : World} {cs : List VV} {vs : List Value} {F : List Nat} (h : OWs w cs vs F)
    (hb : ∀ b ∈ F, w'.heap[b]? = w.heap[b]?) : OWs w' cs vs F := by
  induction h with
  | nil => exact .nil
  | sc h _ ih => exact .sc h (ih hb)
  | tr0 sz _ ih => exact .tr0 sz (ih hb)
  | tr rows b cap sz cur e fr F hb' hf hs hn hm hsz _ _ ih1 ih2 =>
    exact .tr rows b cap sz cur e fr F (by rw [hb b (by simp)]; exact hb') hf hs hn hm hsz (ih1 fun x hx => hb x (by simp [hx])) (ih2 fun x hx => hb x (by simp [hx]))

theorem OWs.lt {w : World} {cs : List VV} {vs : List Value} {F : List Nat} (h : OWs w cs vs F) : ∀ b ∈ F, b < w.heap.size := by
  induction h with
  | nil => simp
  | sc h _ ih => exact ih
  | tr0 sz _ ih => exact ih
  | tr rows b cap sz cur e fr F hb' hf hs hn hm hsz _ _ ih1 ih2 =>
    intro x hx
    simp only [List.mem_cons, List.mem_append] at hx
    rcases hx with rfl | hx | hx
    · exact (Array.getElem?_eq_some_iff.1 hb').1
    · exact ih1 x hx
    · exact ih2 x hx

theorem flatten_length_sz {α : Type} (sz : Nat) : ∀ (rows : List (List α)), (∀ r ∈ rows, r.length = sz) → rows.flatten.length = rows.length * sz
  | [], _ => by simp
  | r :: rows, h => by
    rw [List.flatten_cons, List.length_append, flatten_length_sz sz rows (fun x hx => h x (by simp [hx])), h r (by simp), List.length_cons, Nat.add_mul]
    omega

/-- What owns its blocks reads, where these blocks are 'ok'. -/
theorem OWs.ro {ok : Nat → Prop} {w : World} {cs : List VV} {vs : List Value} {F : List Nat} (h : OWs w cs vs F) (hok : ∀ b ∈ F, ok b) : RO ok w cs vs := by
  induction h with
  | nil => exact .nil
  | sc h _ ih => exact .sc h (ih hok)
  | tr0 sz _ ih => exact .tr0 sz none 0 (ih hok)
  | tr rows b cap sz cur e fr F hb' hf hs hn hm hsz h _ ih1 ih2 =>
    refine .tr rows b 0 cap sz (cur.toList.take (rows.length * sz)) (hok b (by simp)) hsz ?_ hn (ih1 fun x hx => hok x (by simp [hx])) (ih2 fun x hx => hok x (by simp [hx]))
    intro q u hu
    rw [List.getElem?_take] at hu
    split at hu
    · simp only [World.cell?, hb', Nat.zero_add, Option.isSome_none, Bool.false_eq_true, if_false]
      simpa using hu
    · cases hu

/-- How roots may come to stand later: what still is of the old generation lies where it lay. -/
structure Compat (roots roots' : List Root) (gh gh' : Nat → Gh) : Prop where
  len : roots.length ≤ roots'.length
  box : ∀ k cells, k < roots.length → roots'[k]? = some (.box cells) → (∃ cells0, roots[k]? = some (.box cells0)) ∧ gh' k = gh k
  arr : ∀ k g own sz rows, k < roots.length → roots'[k]? = some (.arr g own sz rows) → ∃ g0 own0 sz0 rows0, roots[k]? = some (.arr g0 own0 sz0 rows0) ∧ g0 ≤ g ∧ (g0 = g → gh' k = gh k)

theorem Compat.refl (roots : List Root) (gh : Nat → Gh) : Compat roots roots gh gh :=
  ⟨Nat.le_refl _, fun k cells _ h => ⟨⟨cells, h⟩, rfl⟩, fun k g own sz rows _ h => ⟨g, own, sz, rows, h, Nat.le_refl _, fun _ => rfl⟩⟩

theorem Compat.genLe {roots roots' : List Root} {gh gh' : Nat → Gh} (h : Compat roots roots' gh gh') {k g : Nat} (hk : genLe roots k g) : genLe roots' k g :=
  ⟨Nat.lt_of_lt_of_le hk.1 h.len, fun g' own sz rows hr => by
    obtain ⟨g0, own0, sz0, rows0, h0, hle, _⟩ := h.arr k g' own sz rows hk.1 hr
    exact Nat.le_trans (hk.2 g0 own0 sz0 rows0 h0) hle⟩

theorem Compat.tag {roots roots' : List Root} {gh gh' : Nat → Gh} (h : Compat roots roots' gh gh') {tag : Option (Nat × Nat)}
    (hk : ∀ k g, tag = some (k, g) → Go.Proofs.YtjldkpggcjolcaaV.genLe roots k g) (ht : tagOk roots' tag = true) : tagOk roots tag = true := by
  cases tag with
  | none => rfl
  | some x =>
    obtain ⟨k, g⟩ := x
    have hg := hk k g rfl
    simp only [tagOk] at ht ⊢
    split at ht
    · rename_i g' own sz rows hr
      have hgg : g = g' := by simpa using ht
      subst hgg
      obtain ⟨g0, own0, sz0, rows0, h0, hle, _⟩ := h.arr k g own sz rows hg.1 hr
      have := hg.2 g0 own0 sz0 rows0 h0
      have : g0 = g := by omega
      subst this
      simp [h0]
    · cases ht

theorem VRs.mono {ok ok' : Option (Nat × Nat) → Nat → Prop} {w w' : World} {roots roots' : List Root} {gh gh' : Nat → Gh} {cs : List VV} {vs : List Value} (h : VRs ok w roots gh cs vs)
    (hc : Compat roots roots' gh gh') (hb : ∀ tag, tagOk roots' tag = true → tagOk roots tag = true → ∀ b, ok tag b → ok' tag b ∧ w'.heap[b]? = w.heap[b]?) : VRs ok' w' roots' gh' cs vs := by
  induction h with
  | nil => exact .nil
  | undef v _ ih => exact .undef v ih
  | sc h _ ih => exact .sc h ih
  | sl tag sz rows v ho hk h _ ih => exact .sl tag sz rows v ho (fun k g e => hc.genLe (hk k g e)) (fun ht => (h (hc.tag hk ht)).mono (hb tag ht (hc.tag hk ht))) ih
  | rs k g lo n v ho hk h _ ih =>
    refine .rs k g lo n v ho (hc.genLe hk) (fun own sz rows hr => ?_) ih
    obtain ⟨g0, own0, sz0, rows0, h0, hle, he⟩ := hc.arr k g own sz rows hk.1 hr
    have := hk.2 g0 own0 sz0 rows0 h0
    have e : g0 = g := by omega
    subst e
    rw [he rfl]
    exact h own0 sz0 rows0 h0
  | ptr k g i off v ho hk hbx har _ ih =>
    refine .ptr k g i off v ho (hc.genLe hk) (fun cells hr => ?_) (fun own sz rows hr => ?_) ih
    · obtain ⟨⟨cells0, h0⟩, he⟩ := hc.box k cells hk.1 hr
      rw [he]; exact hbx cells0 h0
    · obtain ⟨g0, own0, sz0, rows0, h0, hle, he⟩ := hc.arr k g own sz rows hk.1 hr
      have := hk.2 g0 own0 sz0 rows0 h0
      have e : g0 = g := by omega
      subst e
      rw [he rfl]
      exact har own0 sz0 rows0 h0
  | rp tag row off v ho hk h _ ih =>
    refine .rp tag row off v ho (fun k g e => hc.genLe (hk k g e)) (fun ht => ?_) ih
    obtain ⟨b, o, cells, hv, hok, hr, hcl⟩ := h (hc.tag hk ht)
    have hb := hb tag ht (hc.tag hk ht)
    exact ⟨b, o, cells, hv, (hb b hok).1, hr.mono hb, fun q u hu => by rw [World.cell?_of_block (w := w) (hb b hok).2]; exact hcl q u hu⟩
  | agg ds us _ h1 _ ih1 ih2 => exact .agg ds us ih1 h1 ih2
  | tup ds us _ _ ih1 ih2 => exact .tup ds us ih1 ih2
  | fn f ds us _ _ ih1 ih2 => exact .fn f ds us ih1 ih2

theorem VRs.length {ok : Option (Nat × Nat) → Nat → Prop} {w : World} {roots : List Root} {gh : Nat → Gh} {cs : List VV} {vs : List Value} (h : VRs ok w roots gh cs vs) : vs.length = cs.length := by
  induction h <;> simp_all

theorem VRs.get {ok : Option (Nat × Nat) → Nat → Prop} {w : World} {roots : List Root} {gh : Nat → Gh} {cs : List VV} {vs : List Value} (h : VRs ok w roots gh cs vs) :
    ∀ (i : Nat) c, cs[i]? = some c → ∃ v, vs[i]? = some v ∧ VRs ok w roots gh [c] [v] := by
  induction h with
  | nil => intro i c hi; simp at hi
  | undef v _ ih => intro i c hi; cases i with
    | zero => simp at hi; subst hi; exact ⟨v, rfl, .undef v .nil⟩
    | succ i => exact ih i c (by simpa using hi)
  | sc h _ ih => intro i c hi; cases i with
    | zero => simp at hi; subst hi; exact ⟨_, rfl, .sc h .nil⟩
    | succ i => exact ih i c (by simpa using hi)
  | sl tag sz rows v ho hk h _ ih => intro i c hi; cases i with
    | zero => simp at hi; subst hi; exact ⟨_, rfl, .sl tag sz rows v ho hk h .nil⟩
    | succ i => exact ih i c (by simpa using hi)
  | rs k g lo n v ho hk h _ ih => intro i c hi; cases i with
    | zero => simp at hi; subst hi; exact ⟨_, rfl, .rs k g lo n v ho hk h .nil⟩
    | succ i => exact ih i c (by simpa using hi)
  | ptr k g x off v ho hk hbx har _ ih => intro i c hi; cases i with
    | zero => simp at hi; subst hi; exact ⟨_, rfl, .ptr k g x off v ho hk hbx har .nil⟩
    | succ i => exact ih i c (by simpa using hi)
  | rp tag row off v ho hk h _ ih => intro i c hi; cases i with
    | zero => simp at hi; subst hi; exact ⟨_, rfl, .rp tag row off v ho hk h .nil⟩
    | succ i => exact ih i c (by simpa using hi)
  | agg ds us h1 ho _ _ ih => intro i c hi; cases i with
    | zero => simp at hi; subst hi; exact ⟨_, rfl, .agg ds us h1 ho .nil⟩
    | succ i => exact ih i c (by simpa using hi)
  | tup ds us h1 _ _ ih => intro i c hi; cases i with
    | zero => simp at hi; subst hi; exact ⟨_, rfl, .tup ds us h1 .nil⟩
    | succ i => exact ih i c (by simpa using hi)
  | fn f ds us h1 _ _ ih => intro i c hi; cases i with
    | zero => simp at hi; subst hi; exact ⟨_, rfl, .fn f ds us h1 .nil⟩
    | succ i => exact ih i c (by simpa using hi)

theorem RO.get {ok : Nat → Prop} {w : World} {cs : List VV} {vs : List Value} (h : RO ok w cs vs) :
    ∀ (i : Nat) c, cs[i]? = some c → ∃ v, vs[i]? = some v ∧ RO ok w [c] [v] := by
  induction h with
  | nil => intro i c hi; simp at hi
  | sc h _ ih => intro i c hi; cases i with
    | zero => simp at hi; subst hi; exact ⟨_, rfl, .sc h .nil⟩
    | succ i => exact ih i c (by simpa using hi)
  | tr0 sz a cap _ ih => intro i c hi; cases i with
    | zero => simp at hi; subst hi; exact ⟨_, rfl, .tr0 sz a cap .nil⟩
    | succ i => exact ih i c (by simpa using hi)
  | tr rows b off cap sz cells hok hsz hc hcap h1 _ _ ih => intro i c hi; cases i with
    | zero => simp at hi; subst hi; exact ⟨_, rfl, .tr rows b off cap sz cells hok hsz hc hcap h1 .nil⟩
    | succ i => exact ih i c (by simpa using hi)

theorem RO.app {ok : Nat → Prop} {w : World} {as bs : List VV} {us vs : List Value} (h : RO ok w as us) (h' : RO ok w bs vs) : RO ok w (as ++ bs) (us ++ vs) := by
  induction h with
  | nil => exact h'
  | sc h _ ih => exact .sc h ih
  | tr0 sz a cap _ ih => exact .tr0 sz a cap ih
  | tr rows b off cap sz cells hok hsz hc hcap h1 _ _ ih => exact .tr rows b off cap sz cells hok hsz hc hcap h1 ih

theorem VRs.app {ok : Option (Nat × Nat) → Nat → Prop} {w : World} {roots : List Root} {gh : Nat → Gh} {as bs : List VV} {us vs : List Value} (h : VRs ok w roots gh as us) (h' : VRs ok w roots gh bs vs) :
    VRs ok w roots gh (as ++ bs) (us ++ vs) := by
  induction h with
  | nil => exact h'
  | undef v _ ih => exact .undef v ih
  | sc h _ ih => exact .sc h ih
  | sl tag sz rows v ho hk h _ ih => exact .sl tag sz rows v ho hk h ih
  | rs k g lo n v ho hk h _ ih => exact .rs k g lo n v ho hk h ih
  | ptr k g i off v ho hk hbx har _ ih => exact .ptr k g i off v ho hk hbx har ih
  | rp tag row off v ho hk h _ ih => exact .rp tag row off v ho hk h ih
  | agg ds us h1 ho _ _ ih2 => exact .agg ds us h1 ho ih2
  | tup ds us h1 _ _ ih2 => exact .tup ds us h1 ih2
  | fn f ds us h1 _ _ ih2 => exact .fn f ds us h1 ih2

/-- Lists of cells, cut. -/
theorem RO.split {ok : Nat → Prop} {w : World} {cs : List VV} {vs : List Value} (h : RO ok w cs vs) : ∀ n, RO ok w (cs.take n) (vs.take n) ∧ RO ok w (cs.drop n) (vs.drop n) := by
  induction h with
  | nil => intro n; simp; exact .nil
  | sc h t ih => intro n; cases n with
    | zero => simp; exact ⟨.nil, .sc h t⟩
    | succ n => simp only [List.take_succ_cons, List.drop_succ_cons]; exact ⟨.sc h (ih n).1, (ih n).2⟩
  | tr0 sz a cap t ih => intro n; cases n with
    | zero => simp; exact ⟨.nil, .tr0 sz a cap t⟩
    | succ n => simp only [List.take_succ_cons, List.drop_succ_cons]; exact ⟨.tr0 sz a cap (ih n).1, (ih n).2⟩
  | tr rows b off cap sz cells hok hsz hc hcap h1 t _ ih => intro n; cases n with
    | zero => simp; exact ⟨.nil, .tr rows b off cap sz cells hok hsz hc hcap h1 t⟩
    | succ n => simp only [List.take_succ_cons, List.drop_succ_cons]; exact ⟨.tr rows b off cap sz cells hok hsz hc hcap h1 (ih n).1, (ih n).2⟩

theorem VRs.split {ok : Option (Nat × Nat) → Nat → Prop} {w : World} {roots : List Root} {gh : Nat → Gh} {cs : List VV} {vs : List Value} (h : VRs ok w roots gh cs vs) :
    ∀ n, VRs ok w roots gh (cs.take n) (vs.take n) ∧ VRs ok w roots gh (cs.drop n) (vs.drop n) := by
  induction h with
  | nil => intro n; simp; exact .nil
  | undef v t ih => intro n; cases n with
    | zero => simp; exact ⟨.nil, .undef v t⟩
    | succ n => simp only [List.take_succ_cons, List.drop_succ_cons]; exact ⟨.undef v (ih n).1, (ih n).2⟩
  | sc h t ih => intro n; cases n with
    | zero => simp; exact ⟨.nil, .sc h t⟩
    | succ n => simp only [List.take_succ_cons, List.drop_succ_cons]; exact ⟨.sc h (ih n).1, (ih n).2⟩
  | sl tag sz rows v ho hk h t ih => intro n; cases n with
    | zero => simp; exact ⟨.nil, .sl tag sz rows v ho hk h t⟩
    | succ n => simp only [List.take_succ_cons, List.drop_succ_cons]; exact ⟨.sl tag sz rows v ho hk h (ih n).1, (ih n).2⟩
  | rs k g lo m v ho hk h t ih => intro n; cases n with
    | zero => simp; exact ⟨.nil, .rs k g lo m v ho hk h t⟩
    | succ n => simp only [List.take_succ_cons, List.drop_succ_cons]; exact ⟨.rs k g lo m v ho hk h (ih n).1, (ih n).2⟩
  | ptr k g i off v ho hk hbx har t ih => intro n; cases n with
    | zero => simp; exact ⟨.nil, .ptr k g i off v ho hk hbx har t⟩
    | succ n => simp only [List.take_succ_cons, List.drop_succ_cons]; exact ⟨.ptr k g i off v ho hk hbx har (ih n).1, (ih n).2⟩
  | rp tag row off v ho hk h t ih => intro n; cases n with
    | zero => simp; exact ⟨.nil, .rp tag row off v ho hk h t⟩
    | succ n => simp only [List.take_succ_cons, List.drop_succ_cons]; exact ⟨.rp tag row off v ho hk h (ih n).1, (ih n).2⟩
  | agg ds us h1 ho t _ ih => intro n; cases n with
    | zero => simp; exact ⟨.nil, .agg ds us h1 ho t⟩
    | succ n => simp only [List.take_succ_cons, List.drop_succ_cons]; exact ⟨.agg ds us h1 ho (ih n).1, (ih n).2⟩
  | tup ds us h1 t _ ih => intro n; cases n with
    | zero => simp; exact ⟨.nil, .tup ds us h1 t⟩
    | succ n => simp only [List.take_succ_cons, List.drop_succ_cons]; exact ⟨.tup ds us h1 (ih n).1, (ih n).2⟩
  | fn f ds us h1 t _ ih => intro n; cases n with
    | zero => simp; exact ⟨.nil, .fn f ds us h1 t⟩
    | succ n => simp only [List.take_succ_cons, List.drop_succ_cons]; exact ⟨.fn f ds us h1 (ih n).1, (ih n).2⟩
end Go.Proofs.YtjldkpggcjolcaaV
