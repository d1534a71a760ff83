/- Stores into roots. Conditions: those of each theorem. -/
import Derived.Test.YtjldkpggcjolcaaV14
namespace Go.Proofs.YtjldkpggcjolcaaV
set_option linter.unusedVariables false
set_option linter.unusedSimpArgs false

section
variable {P : Program} {T : Tbl} {C : Cx} {roots roots' : List Root} {gh gh' : Nat → Gh} {Fk Fk' : Nat → List Nat} {X X' : List Nat} {w w' : World}

theorem Only.kept {b : Nat} (h : Only b w w') (hk : Kept C w) (hb : C.w0.heap.size ≤ b ∨ b ∈ C.F0) : Kept C w' :=
  ⟨h.os.trans hk.os, h.tape.trans hk.tape, h.output.trans hk.output, by rw [h.size]; exact hk.size, fun k hlt hn => by
    rw [← hk.block k hlt hn]
    refine h.block k fun e => ?_
    subst e
    rcases hb with h1 | h1
    · omega
    · exact hn h1⟩

theorem run_storeAt {t : Nat} {i : TI} (hT : TyOk P t i) {b off : Nat} {cur : Array Value} {e : TypeId} {fr : Nat × Nat} (hb : w.heap[b]? = some (.cells cur e fr)) (hf : Free cur.size fr) {v : Value} {us : List Value} (hc : v.cells = us.toArray)
    (hl : us.length = i.size) (hle : off + i.size ≤ cur.size) (h1 : ∀ u ∈ us, u.oneCell' = true) :
    ∃ w', (Instr.storeAt t (.pointer (some ⟨b, off, none⟩)) v).run P w = .ok () w' ∧ w'.heap[b]? = some (.cells (cur.toList.take off ++ us ++ cur.toList.drop (off + i.size)).toArray e fr) ∧ Only b w w' := by
  obtain ⟨w', hr, hb', ho⟩ := run_store_cells (P := P) b off e fr us 0 cur w hb hf (by omega) h1
  refine ⟨w', ?_, by rw [hb', Nat.add_zero, hl], ho⟩
  simp [Instr.storeAt, Instr.sureAddr, storeVar, hc, ty_size hT, hl, hr]

/-- A store into a variable. -/
theorem store_box {t : Nat} {i : TI} (hT : TyOk P t i) (h : HX C roots gh Fk X w) {k g j off : Nat} {cells : List VV} (hk : roots[k]? = some (.box cells)) {p v : Value} (hp : VRs (okF w roots Fk X) w roots gh [.ptr k g j off] [p])
    {c : VV} {cs : List VV} (hcs : cellsV c = some cs) (hv : VRs (okF w roots Fk X) w roots gh [c] [v]) (hl : cs.length = i.size) (hle : off + i.size ≤ cells.length) :
    ∃ w' gh' Fk', (Instr.storeAt t p v).run P w = .ok () w' ∧ HX C (roots.set k (.box (cells.take off ++ cs ++ cells.drop (off + i.size)))) gh' Fk' X w' ∧
      Ext roots gh Fk X w (roots.set k (.box (cells.take off ++ cs ++ cells.drop (off + i.size)))) gh' Fk' X w' := by
  cases hp with
  | sc hs _ => cases hs
  | ptr k g j off p ho hg hpb hpa t' =>
  rw [hpb cells hk]
  obtain ⟨us, hus, hvs, hone⟩ := cellsV_ok hcs hv
  have hlt := (List.getElem?_eq_some_iff.1 hk).1
  have hbase : (gh k).b ∈ Fk k := (h.one k _ hk).baseBox
  have h1 := h.one k _ hk
  have hm := h.mine k _ hk
  have hnd := h.nodup k _ hk
  have hap := h.heldA k _ hk
  generalize hF : Fk k = F at h1 hnd
  cases h1 with
  | box cells cur T0 fr hb hf hcl hc1 =>
  have hll := hcl.length
  have hlu := hvs.length
  obtain ⟨w', hr, hb', hon⟩ := run_storeAt (P := P) (off := off) hT hb hf hus (by omega) (by simp at hll; omega) hone
  have c : Chg C roots gh Fk X w k (roots.set k (.box (cells.take off ++ cs ++ cells.drop (off + i.size)))) (.box (cells.take off ++ cs ++ cells.drop (off + i.size))) (gh k) [(gh k).b] X [(gh k).b] w' := {
    kept := hon.kept h.kept (hm _ hbase).2
    le := by simp
    at' := by simp [hlt]
    other := fun j hj => by simp [List.getElem?_set, Ne.symm hj]
    size := by rw [hon.size]; omega
    same := fun x hx hw => hon.block x (by simpa using hw)
    wr := fun x hx => by simp at hx; subst hx; exact .inl ⟨hlt, hbase⟩
    sub := fun x hx => by
      simp only [List.cons_append, List.nil_append, List.mem_cons] at hx
      rcases hx with rfl | hx
      · exact .inl ⟨hlt, hbase⟩
      · exact .inr (.inl hx)
    nd := by simp only [List.cons_append, List.nil_append, List.nodup_cons]; exact ⟨hap _ hbase, h.heldN⟩
    lt := fun x hx => by
      rw [hon.size]
      simp only [List.cons_append, List.nil_append, List.mem_cons] at hx
      rcases hx with rfl | hx
      · exact (hm _ hbase).1
      · exact (h.heldM x hx).1
    cbox := fun _ _ _ => ⟨⟨_, hk⟩, rfl⟩
    carr := fun _ _ _ _ e => by cases e }
  have hx := h.ext c (Nat.le_of_lt hlt)
  have hcl' := hx.vrs hcl
  refine ⟨w', _, _, hr, h.step c (Nat.le_of_lt hlt) (.box (g0 := gh k) _ _ T0 fr hb' ?_ ?_ ?_), hx⟩
  · have : (cur.toList.take off ++ us ++ cur.toList.drop (off + i.size)).toArray.size = cur.size := by
      simp only [List.size_toArray, List.length_append, List.length_take, List.length_drop, Array.length_toList] at hll ⊢; omega
    rw [this]; exact hf
  · exact ((hcl'.split off).1.app (hx.vrs hvs)).app (hcl'.split (off + i.size)).2
  · intro u hu
    simp only [List.mem_append] at hu
    rcases hu with (hu | hu) | hu
    · exact hc1 u (List.mem_of_mem_take hu)
    · exact hone u hu
    · exact hc1 u (List.mem_of_mem_drop hu)

theorem OWs.split {cs : List VV} {vs : List Value} {F : List Nat} (h : OWs w cs vs F) : ∀ n, ∃ F1 F2, F = F1 ++ F2 ∧ OWs w (cs.take n) (vs.take n) F1 ∧ OWs w (cs.drop n) (vs.drop n) F2 := by
  induction h with
  | nil => intro n; exact ⟨[], [], rfl, by simp; exact .nil, by simp; exact .nil⟩
  | sc h t ih => intro n; cases n with
    | zero => exact ⟨[], _, rfl, .nil, .sc h t⟩
    | succ n => obtain ⟨F1, F2, rfl, h1, h2⟩ := ih n; exact ⟨F1, F2, rfl, .sc h h1, h2⟩
  | tr0 sz t ih => intro n; cases n with
    | zero => exact ⟨[], _, rfl, .nil, .tr0 sz t⟩
    | succ n => obtain ⟨F1, F2, rfl, h1, h2⟩ := ih n; exact ⟨F1, F2, rfl, .tr0 sz h1, h2⟩
  | tr rows b cap sz cur e fr F hb hf hs hn hm hsz h1 t _ ih => intro n; cases n with
    | zero => exact ⟨[], _, rfl, .nil, .tr rows b cap sz cur e fr F hb hf hs hn hm hsz h1 t⟩
    | succ n =>
      obtain ⟨F1, F2, rfl, h2, h3⟩ := ih n
      exact ⟨b :: (F ++ F1), F2, by simp, .tr rows b cap sz cur e fr F hb hf hs hn hm hsz h1 h2, h3⟩

theorem OWs.scs {cs : List VV} {vs : List Value} {F : List Nat} (h : OWs w cs vs F) (ha : cs.all isSc = true) : F = [] := by
  induction h with
  | nil => rfl
  | sc h t ih => simp only [List.all_cons, Bool.and_eq_true] at ha; exact ih ha.2
  | tr0 sz t ih => simp [isSc] at ha
  | tr rows b cap sz cur e fr F hb hf hs hn hm hsz h1 t _ ih => simp [isSc] at ha

theorem VRs.scs {ok : Option (Nat × Nat) → Nat → Prop} {cs : List VV} {vs : List Value} (h : VRs ok w roots gh cs vs) (ha : cs.all isSc = true) : Scs cs vs := by
  induction cs generalizing vs with
  | nil =>
    have := h.length
    have : vs = [] := List.eq_nil_of_length_eq_zero (by simpa using this)
    subst this; exact .nil
  | cons c cs ih =>
    cases vs with
    | nil => have := h.length; simp at this
    | cons v vs =>
      simp only [List.all_cons, Bool.and_eq_true] at ha
      exact .cons (isSc_ok ha.1 h.hd) (ih h.tl ha.2)

theorem flat_set {α : Type} (sz : Nat) : ∀ (rows : List (List α)), (∀ r ∈ rows, r.length = sz) → ∀ (i : Nat) (r : List α), rows[i]? = some r → ∀ (off n : Nat) (cs : List α), off + n ≤ sz → cs.length = n →
    (rows.set i (r.take off ++ cs ++ r.drop (off + n))).flatten = rows.flatten.take (i * sz + off) ++ cs ++ rows.flatten.drop (i * sz + off + n)
  | [], _, i, r, h, _, _, _, _, _ => by simp at h
  | x :: rows, hs, 0, r, h, off, n, cs, hle, hl => by
    simp at h; subst h
    have hx := hs x (by simp)
    simp only [List.set_cons_zero, List.flatten_cons, Nat.zero_mul, Nat.zero_add]
    rw [List.take_append_of_le_length (by omega), List.drop_append_of_le_length (by omega)]
    simp
  | x :: rows, hs, i + 1, r, h, off, n, cs, hle, hl => by
    have hx := hs x (by simp)
    simp only [List.set_cons_succ, List.flatten_cons]
    rw [flat_set sz rows (fun y hy => hs y (by simp [hy])) i r (by simpa using h) off n cs hle hl]
    rw [show (i + 1) * sz + off = x.length + (i * sz + off) by rw [Nat.add_mul, hx]; omega, List.take_length_add_append, Nat.add_assoc x.length, List.drop_length_add_append]
    simp

/-- A store of scalars into a row. -/
theorem store_arr {t : Nat} {i : TI} (hT : TyOk P t i) (h : HX C roots gh Fk X w) {k g j off sz : Nat} {own : Bool} {rows : List (List VV)} {row : List VV} (hk : roots[k]? = some (.arr g own sz rows)) (hrow : rows[j]? = some row) {p v : Value}
    (hp : VRs (okF w roots Fk X) w roots gh [.ptr k g j off] [p]) {c : VV} {cs : List VV} (hcs : cellsV c = some cs) (hv : VRs (okF w roots Fk X) w roots gh [c] [v]) (hl : cs.length = i.size) (hle : off + i.size ≤ row.length)
    (ha : cs.all isSc = true) (ha0 : ((row.drop off).take i.size).all isSc = true) :
    ∃ w' gh' Fk', (Instr.storeAt t p v).run P w = .ok () w' ∧ HX C (roots.set k (.arr g own sz (rows.set j (row.take off ++ cs ++ row.drop (off + i.size))))) gh' Fk' X w' ∧
      Ext roots gh Fk X w (roots.set k (.arr g own sz (rows.set j (row.take off ++ cs ++ row.drop (off + i.size))))) gh' Fk' X w' := by
  cases hp with
  | sc hs _ => cases hs
  | ptr k g j off p ho hg hpb hpa t' =>
  rw [hpa own sz rows hk]
  obtain ⟨us, hus, hvs, hone⟩ := cellsV_ok hcs hv
  have hscs := hvs.scs ha
  have hlu := hvs.length
  have hlt := (List.getElem?_eq_some_iff.1 hk).1
  obtain ⟨hsze, hnz, cur, e, fr, hb, hs, hn, hsz, hro⟩ := h.arr1 hk (fun e => by rw [e] at hrow; cases hrow)
  have hbase : (gh k).b ∈ Fk k := (h.one k _ hk).base rfl hnz
  have hm := h.mine k _ hk
  have hnd := h.nodup k _ hk
  have hap := h.heldA k _ hk
  obtain ⟨hrl, hrle, hjl⟩ := row_in hsz hrow
  have hcap : rows.length * (gh k).sz ≤ cur.size := by rw [hs]; exact Nat.mul_le_mul_right _ hn
  have hF : ∃ F0, Fk k = (gh k).b :: F0 ∧ Free cur.size fr ∧ (gh k).cap ≤ maxLen ∧ (own = true → OWs w rows.flatten (cur.toList.take (rows.length * (gh k).sz)) F0) ∧
      (own = false → F0 = [] ∧ RO (okF w roots Fk X none) w rows.flatten (cur.toList.take (rows.length * (gh k).sz))) := by
    have h1 := h.one k _ hk
    generalize Fk k = F at h1
    cases h1 with
    | none0 g own hz' hc' => rw [hnz] at hz'; cases hz'
    | own g rows cur' e' fr' F0 hz' hb' hf' hs' hn' hm' hsz' h' => rw [hb] at hb'; cases hb'; exact ⟨F0, rfl, hf', hm', fun _ => h', fun e => (by cases e)⟩
    | shared g rows cur' e' fr' hz' hb' hf' hs' hn' hm' hsz' h' => rw [hb] at hb'; cases hb'; exact ⟨[], rfl, hf', hm', fun e => (by cases e), fun _ => ⟨rfl, h'⟩⟩
  obtain ⟨F0, hFe, hfree, hmax, hown, hsh⟩ := hF
  obtain ⟨w', hr, hb', hon⟩ := run_storeAt (P := P) (off := j * (gh k).sz + off) hT hb hfree hus (by omega) (by omega) hone
  have c : Chg C roots gh Fk X w k (roots.set k (.arr g own sz (rows.set j (row.take off ++ cs ++ row.drop (off + i.size))))) (.arr g own sz (rows.set j (row.take off ++ cs ++ row.drop (off + i.size)))) (gh k) (Fk k) X [(gh k).b] w' := {
    kept := hon.kept h.kept (hm _ hbase).2
    le := by simp
    at' := by simp [hlt]
    other := fun j hj => by simp [List.getElem?_set, Ne.symm hj]
    size := by rw [hon.size]; omega
    same := fun x hx hw => hon.block x (by simpa using hw)
    wr := fun x hx => by simp at hx; subst hx; exact .inl ⟨hlt, hbase⟩
    sub := fun x hx => by
      rcases List.mem_append.1 hx with hx | hx
      · exact .inl ⟨hlt, hx⟩
      · exact .inr (.inl hx)
    nd := List.nodup_append.2 ⟨hnd, h.heldN, fun a ha b hb e => hap a ha (e ▸ hb)⟩
    lt := fun x hx => by
      rw [hon.size]
      rcases List.mem_append.1 hx with hx | hx
      · exact (hm x hx).1
      · exact (h.heldM x hx).1
    cbox := fun _ e => by cases e
    carr := fun _ _ _ _ e _ => by
      cases e
      refine ⟨g, own, sz, rows, hk, Nat.le_refl _, fun _ => ⟨rfl, fun x hx => ⟨hx, fun hw => ?_⟩⟩⟩
      simp at hw; subst hw
      rw [hFe, List.nodup_cons] at hnd
      rw [hFe] at hx
      exact hnd.1 hx }
  have hx := h.ext c (Nat.le_of_lt hlt)
  have hfl := flat_set (gh k).sz rows hsz j row hrow off i.size cs (by omega) hl
  have htk : (cur.toList.take (j * (gh k).sz + off) ++ us ++ cur.toList.drop (j * (gh k).sz + off + i.size)).take (rows.length * (gh k).sz) =
      (cur.toList.take (rows.length * (gh k).sz)).take (j * (gh k).sz + off) ++ us ++ (cur.toList.take (rows.length * (gh k).sz)).drop (j * (gh k).sz + off + i.size) := by
    have e1 : (cur.toList.take (j * (gh k).sz + off) ++ us).length = j * (gh k).sz + off + i.size := by
      simp only [List.length_append, List.length_take, Array.length_toList]; omega
    rw [List.take_append, List.take_of_length_le (by rw [e1]; omega), e1, List.take_take, Nat.min_eq_left (by omega), List.drop_take]
  have hlen' : (rows.set j (row.take off ++ cs ++ row.drop (off + i.size))).length = rows.length := by simp
  have hsz' : ∀ r ∈ rows.set j (row.take off ++ cs ++ row.drop (off + i.size)), r.length = (gh k).sz := fun r hr => by
    rcases List.mem_or_eq_of_mem_set hr with hr | rfl
    · exact hsz r hr
    · simp only [List.length_append, List.length_take, List.length_drop]; omega
  have hcz : (cur.toList.take (j * (gh k).sz + off) ++ us ++ cur.toList.drop (j * (gh k).sz + off + i.size)).toArray.size = cur.size := by
    simp only [List.size_toArray, List.length_append, List.length_take, List.length_drop, Array.length_toList]; omega
  have hf2 : Free (cur.toList.take (j * (gh k).sz + off) ++ us ++ cur.toList.drop (j * (gh k).sz + off + i.size)).toArray.size fr := by rw [hcz]; exact hfree
  refine ⟨w', _, _, hr, h.step c (Nat.le_of_lt hlt) ?_, hx⟩
  rw [hFe] at hx ⊢
  subst hsze
  cases own
  · obtain ⟨rfl, hro'⟩ := hsh rfl
    refine .shared (g0 := gh k) g _ _ e fr hnz hb' hf2 (by rw [hcz]; exact hs) (by rw [hlen']; exact hn) hmax hsz' ?_
    rw [hlen', hfl]
    simp only
    rw [htk]
    have h2 := hro'.mono (hx.keep none rfl rfl)
    exact ((h2.split _).1.app hscs.ro).app (h2.split _).2
  · have hO := hown rfl
    refine .own (g0 := gh k) g _ _ e fr F0 hnz hb' hf2 (by rw [hcz]; exact hs) (by rw [hlen']; exact hn) hmax hsz' ?_
    rw [hlen', hfl]
    simp only
    rw [htk]
    have hO' : OWs w' rows.flatten (cur.toList.take (rows.length * (gh k).sz)) F0 := hO.mono fun y hy => hon.block y fun e => by
      subst e
      rw [hFe, List.nodup_cons] at hnd
      exact hnd.1 hy
    obtain ⟨F1, F2, rfl, h1, h2⟩ := hO'.split (j * (gh k).sz + off)
    obtain ⟨F3, F4, rfl, h3, h4⟩ := h2.split i.size
    have hmid : (rows.flatten.drop (j * (gh k).sz + off)).take i.size = (row.drop off).take i.size := by
      have := flat_row (gh k).sz rows hsz j row hrow
      rw [← this, List.drop_take, List.take_take, List.drop_drop, Nat.min_eq_left (by omega)]
    rw [hmid] at h3
    have : F3 = [] := h3.scs ha0
    subst this
    rw [List.drop_drop, List.drop_drop] at h4
    have := (h1.app hscs.ows).app h4
    simpa using this
end
end Go.Proofs.YtjldkpggcjolcaaV
