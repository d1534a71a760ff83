/- Append to a root; stores into roots. Conditions: those of each theorem. -/
import Derived.Test.YtjldkpggcjolcaaV13
namespace Go.Proofs.YtjldkpggcjolcaaV
set_option linter.unusedVariables false
set_option linter.unusedSimpArgs false

section
variable {P : Program} {T : Tbl} {C : Cx} {roots roots' : List Root} {gh gh' : Nat → Gh} {Fk Fk' : Nat → List Nat} {X X' : List Nat} {w w' : World}

/-- The slice type's and the element type's facts. -/
structure SlT (P : Program) (t e : Nat) (ie : TI) : Prop where
  ht : P.underlying t = some (.slice e)
  he : TyOk P e ie

theorem App.kept {b0 : Option Nat} {sz n m : Nat} {all : List Value} {v : Value} {b cap : Nat} {cur : Array Value} {e : TypeId} {fr : Nat × Nat} (ha : App w w' b0 sz n m all v b cap cur e fr) (h : Kept C w)
    (hb : b0 = some b → C.w0.heap.size ≤ b ∨ b ∈ C.F0) : Kept C w' :=
  ⟨ha.os.trans h.os, ha.tape.trans h.tape, ha.output.trans h.output, by rcases ha.where' with ⟨_, e⟩ | ⟨_, e⟩ <;> have := h.size <;> omega, fun k hk hn => by
    rw [← h.block k hk hn]
    have hlt := Nat.lt_of_lt_of_le hk h.size
    refine ha.other k hlt fun e => ?_
    subst e
    rcases ha.where' with ⟨e, _⟩ | ⟨e, _⟩
    · rcases hb e with h1 | h1
      · omega
      · exact hn h1
    · omega⟩

theorem App.new {sz n m : Nat} {all : List Value} {v : Value} {b cap : Nat} {cur : Array Value} {e : TypeId} {fr : Nat × Nat} (ha : App w w' none sz n m all v b cap cur e fr) : b = w.heap.size ∧ New w w' (.cells cur e fr) := by
  rcases ha.where' with ⟨h, _⟩ | ⟨rfl, hs⟩
  · cases h
  · exact ⟨rfl, ha.os, ha.tape, ha.output, hs, fun k hk => ha.other k hk (by omega), ha.blk⟩

/-- The change that an append to a root is. -/
theorem chg_app (h : HX C roots gh Fk X w) {k g sz : Nat} {own own' : Bool} {rows rows2 : List (List VV)} (hk : roots[k]? = some (.arr g own sz rows)) (hz : (gh k).nil = false) {n m : Nat} {all : List Value} {v : Value} {b cap : Nat} {cur : Array Value} {e : TypeId} {fr : Nat × Nat}
    (ha : App w w' (some (gh k).b) sz n m all v b cap cur e fr) (F1 : List Nat) (hF1 : ∀ x ∈ F1, x ∈ (Fk k).tail ∨ x ∈ X) (hn1 : F1.Nodup) :
    Chg C roots gh Fk X w k (roots.set k (.arr (g + 1) own' sz (rows ++ rows2))) (.arr (g + 1) own' sz (rows ++ rows2)) ⟨b, sz, cap, false⟩ (b :: F1) [] [(gh k).b] w' := by
  have hlt := (List.getElem?_eq_some_iff.1 hk).1
  have hbase : (gh k).b ∈ Fk k := (h.one k _ hk).base rfl hz
  have hcons : Fk k = (gh k).b :: (Fk k).tail := by
    have h1 := h.one k _ hk
    generalize Fk k = F at h1
    cases h1 <;> first | rfl | simp_all
  have hnd := h.nodup k _ hk
  have hb1 : b ∉ F1 := fun hm => by
    rcases ha.where' with ⟨e, _⟩ | ⟨e, _⟩
    · cases e
      rcases hF1 _ hm with h1 | h1
      · rw [hcons, List.nodup_cons] at hnd; exact hnd.1 h1
      · exact h.heldA k _ hk _ hbase h1
    · subst e
      rcases hF1 _ hm with h1 | h1
      · have := (h.mine k _ hk _ (List.mem_of_mem_tail h1)).1; omega
      · have := (h.heldM _ h1).1; omega
  have hsz : w.heap.size ≤ w'.heap.size := by rcases ha.where' with ⟨_, e⟩ | ⟨_, e⟩ <;> omega
  exact {
    kept := ha.kept h.kept fun e => by cases e; exact (h.mine k _ hk _ hbase).2
    le := by simp
    at' := by simp [hlt]
    other := fun j hj => by simp [List.getElem?_set, Ne.symm hj]
    size := hsz
    same := fun x hx hw => ha.other x hx fun e => by
      subst e
      rcases ha.where' with ⟨e, _⟩ | ⟨e, _⟩
      · cases e; simp at hw
      · omega
    wr := fun x hx => by simp at hx; subst hx; exact .inl ⟨hlt, hbase⟩
    sub := fun x hx => by
      simp only [List.append_nil, List.mem_cons] at hx
      rcases hx with rfl | hx
      · rcases ha.where' with ⟨e, _⟩ | ⟨e, _⟩
        · cases e; exact .inl ⟨hlt, hbase⟩
        · exact .inr (.inr (by omega))
      · rcases hF1 x hx with h1 | h1
        · exact .inl ⟨hlt, List.mem_of_mem_tail h1⟩
        · exact .inr (.inl h1)
    nd := by rw [List.append_nil, List.nodup_cons]; exact ⟨hb1, hn1⟩
    lt := fun x hx => by
      simp only [List.append_nil, List.mem_cons] at hx
      rcases hx with rfl | hx
      · exact (Array.getElem?_eq_some_iff.1 ha.blk).1
      · rcases hF1 x hx with h1 | h1
        · have := (h.mine k _ hk _ (List.mem_of_mem_tail h1)).1; omega
        · have := (h.heldM _ h1).1; omega
    cbox := fun _ e => by cases e
    carr := fun g' own'' sz' rows' e _ => by
      cases e
      exact ⟨g, own, sz, rows, hk, by omega, fun e => by omega⟩ }

theorem app_val {k g sz : Nat} {own' : Bool} {rows rows2 : List (List VV)} {roots1 : List Root} {gh1 : Nat → Gh} {ok : Option (Nat × Nat) → Nat → Prop} {b cap : Nat} (hk : roots1[k]? = some (.arr (g + 1) own' sz (rows ++ rows2))) (hg : gh1 k = ⟨b, sz, cap, false⟩)
    (hn : rows.length + rows2.length ≤ cap) : VRs ok w' roots1 gh1 [.rs k (g + 1) 0 (rows.length + rows2.length)] [.slice (some ⟨b, 0, none⟩) (rows.length + rows2.length) cap] := by
  refine .rs k (g + 1) 0 _ _ rfl ⟨(List.getElem?_eq_some_iff.1 hk).1, fun g' own sz rows hr => by rw [hk] at hr; cases hr; exact Nat.le_refl _⟩ (fun own sz rows hr => ⟨_, _, rfl, fun _ => by rw [hg]; simp, hn, fun _ => by rw [hg]; simp [Gh.base]⟩) .nil

/-- The nil slice's root changes: to new memory, or not at all. -/
theorem chg_nil (h : HX C roots gh Fk X w) {k g sz : Nat} {own own' : Bool} {rows2 : List (List VV)} (hk : roots[k]? = some (.arr g own sz [])) {n m : Nat} {all : List Value} {v : Value} {b cap : Nat} {cur : Array Value} {e : TypeId} {fr : Nat × Nat}
    (ha : App w w' none sz n m all v b cap cur e fr) (F1 : List Nat) (hF1 : ∀ x ∈ F1, x ∈ X) (hn1 : F1.Nodup) :
    Chg C roots gh Fk X w k (roots.set k (.arr (g + 1) own' sz rows2)) (.arr (g + 1) own' sz rows2) ⟨b, sz, cap, false⟩ (b :: F1) [] [] w' := by
  have hlt := (List.getElem?_eq_some_iff.1 hk).1
  obtain ⟨rfl, hnew⟩ := ha.new
  exact {
    kept := h.kept.new hnew
    le := by simp
    at' := by simp [hlt]
    other := fun j hj => by simp [List.getElem?_set, Ne.symm hj]
    size := by rw [hnew.size]; omega
    same := fun x hx hw => hnew.old x hx
    wr := fun x hx => by simp at hx
    sub := fun x hx => by
      simp only [List.append_nil, List.mem_cons] at hx
      rcases hx with rfl | hx
      · exact .inr (.inr (Nat.le_refl _))
      · exact .inr (.inl (hF1 x hx))
    nd := by rw [List.append_nil, List.nodup_cons]; exact ⟨fun hm => by have := (h.heldM _ (hF1 _ hm)).1; omega, hn1⟩
    lt := fun x hx => by
      rw [hnew.size]
      simp only [List.append_nil, List.mem_cons] at hx
      rcases hx with rfl | hx
      · omega
      · have := (h.heldM _ (hF1 x hx)).1; omega
    cbox := fun _ e => by cases e
    carr := fun g' own'' sz' rows' e _ => by
      cases e
      exact ⟨g, own, sz, [], hk, by omega, fun e => by omega⟩ }

theorem chg_none (h : HX C roots gh Fk X w) {k g sz : Nat} {own own' : Bool} (hk : roots[k]? = some (.arr g own sz [])) (hs : sz = (gh k).sz) :
    Chg C roots gh Fk X w k (roots.set k (.arr (g + 1) own' sz [])) (.arr (g + 1) own' sz []) (gh k) [] [] [] w := by
  have hlt := (List.getElem?_eq_some_iff.1 hk).1
  exact {
    kept := h.kept
    le := by simp
    at' := by simp [hlt]
    other := fun j hj => by simp [List.getElem?_set, Ne.symm hj]
    size := Nat.le_refl _
    same := fun x hx hw => rfl
    wr := fun x hx => by simp at hx
    sub := fun x hx => by simp at hx
    nd := by simp
    lt := fun x hx => by simp at hx
    cbox := fun _ e => by cases e
    carr := fun g' own'' sz' rows' e _ => by
      cases e
      exact ⟨g, own, sz, [], hk, by omega, fun e => by omega⟩ }

/-- Nothing appended to the nil slice. -/
theorem run_append_none {t u ty e : TypeId} {i : TypeInfo} {d : TypeDesc} (ht : P.underlying t = some (.slice e)) (hu : P.underlying u = some d) (hd : ∀ k, d ≠ .int k) (hi : P.info? e = some i)
    {x : Value} {news : List Value} (hn : News P w i.size x 0 news) : (Builtin.append_ #[t, u] ty #[.slice none 0 0, x]).run P w = .ok (.slice none 0 0) w := by
  have h1 := hn.len w
  have h2 := hn.cells w (Same.refl w)
  have h3 : news = [] := List.eq_nil_of_length_eq_zero (by simpa using hn.size)
  subst h3
  simp [Builtin.append_, run_underlying ht, run_underlying hu, desc_ni d hd, sizeOf, typeInfo, hi, h1, h2]

/-- What comes to the nil slice's root. -/
theorem append_root_nil {t u ty e : Nat} {ie : TI} (hs : SlT P t e ie) {d : TypeDesc} (hu : P.underlying u = some d) (hd : ∀ k, d ≠ .int k) (h : HX C roots gh Fk X w) {k g sz : Nat} {own own' : Bool} {rows2 : List (List VV)}
    (hk : roots[k]? = some (.arr g own sz [])) (hnil : (gh k).nil = true) (hcap : (gh k).cap = 0) (hsz : ie.size = sz) (hgz : sz = (gh k).sz) {x : Value} {news : List Value}
    (hn : News P w ie.size x rows2.length news) (hO : own' = true → OWs w rows2.flatten news X) (hR : ∀ ok : Nat → Prop, (∀ b ∈ X, ok b) → (∀ b, okF w roots Fk X none b → ok b) → RO ok w rows2.flatten news)
    (hs2 : ∀ r ∈ rows2, r.length = sz) (hb : rows2.length * ie.bytes ≤ 140737488355328) (hsm : rows2.length ≤ 9223372036854775807) :
    ∃ v w' gh' Fk', (Builtin.append_ #[t, u] ty #[.slice none 0 0, x]).run P w = .ok v w' ∧ HX C (roots.set k (.arr (g + 1) own' sz rows2)) gh' Fk' [] w' ∧
      Ext roots gh Fk X w (roots.set k (.arr (g + 1) own' sz rows2)) gh' Fk' [] w' ∧
      VRs (okF w' (roots.set k (.arr (g + 1) own' sz rows2)) Fk' []) w' (roots.set k (.arr (g + 1) own' sz rows2)) gh' [.rs k (g + 1) 0 rows2.length] [v] := by
  obtain ⟨inf, z, hinf, his, hib, hz, hzz, _, _, hzs, _⟩ := hs.he.info
  have hlt := (List.getElem?_eq_some_iff.1 hk).1
  by_cases hpos : rows2.length = 0
  · have hr2 : rows2 = [] := List.eq_nil_of_length_eq_zero hpos
    subst hr2
    have c := chg_none (own' := own') h hk hgz
    have hx := h.ext c (Nat.le_of_lt hlt)
    have hkk : (roots.set k (.arr (g + 1) own' sz []))[k]? = some (.arr (g + 1) own' sz []) := c.at'
    subst hgz
    refine ⟨_, _, _, _, run_append_none hs.ht hu hd hinf (his ▸ hn), h.step c (Nat.le_of_lt hlt) (.none0 (g0 := gh k) (g + 1) own' hnil hcap), hx, ?_⟩
    refine .rs k (g + 1) 0 _ _ rfl ⟨(List.getElem?_eq_some_iff.1 hkk).1, fun g' own sz rows hr => by rw [hkk] at hr; cases hr; exact Nat.le_refl _⟩ (fun own sz rows hr => ⟨_, _, rfl, fun h => absurd rfl h, Nat.le_refl _, fun _ => ?_⟩) .nil
    rw [upd_same]; exact ⟨by simp [Gh.base, hnil], hcap.symm⟩
  · obtain ⟨v, w', b, cap, cur, e', fr, hrun, happ⟩ := run_append (ty := ty) (n := 0) (cap := 0) (b0 := none) (olds := []) hs.ht hu hd hinf hz (by rw [hzs, his]) (his ▸ hn)
      (.inl ⟨rfl, rfl, rfl, rfl, by omega⟩) (by rw [hib, Nat.zero_add]; exact hb) (by omega)
    rw [his, hsz] at happ
    have hcs := happ.cells
    have hle := happ.le
    simp only [Nat.zero_add, List.nil_append] at hcs hle
    cases own'
    · have c := chg_nil (own' := false) (rows2 := rows2) h hk happ [] (fun y hy => by cases hy) .nil
      have hx := h.ext c (Nat.le_of_lt hlt)
      obtain ⟨hbe, hnew⟩ := happ.new
      have hokb : ∀ y, y ∈ X → okF w' (roots.set k (.arr (g + 1) false sz rows2)) (upd Fk k [b]) [] none y ∧ w'.heap[y]? = w.heap[y]? := fun y hy => by
        have h2 := (h.heldM y hy).1
        refine ⟨⟨Nat.lt_of_lt_of_le h2 c.size, by simp, fun j R hR hm => ?_⟩, hnew.old y h2⟩
        by_cases e : j = k
        · subst e; rw [upd_same] at hm; simp at hm; omega
        · rw [upd_other _ _ e] at hm; rw [c.other j e] at hR; exact h.heldA j R hR y hm hy
      refine ⟨v, w', _, _, hrun, h.step c (Nat.le_of_lt hlt) (.shared (g0 := ⟨b, sz, cap, false⟩) (g + 1) rows2 cur e' fr rfl happ.blk happ.free happ.csz hle happ.max hs2 ?_), hx, ?_⟩
      · simp only; rw [hcs]
        refine (hR (fun y => y ∈ X ∨ okF w roots Fk X none y) (fun y hy => .inl hy) (fun y hy => .inr hy)).mono fun y hy => ?_
        rcases hy with hy | hy
        · exact hokb y hy
        · exact hx.keep none rfl rfl y hy
      · rw [happ.val]
        have := app_val (rows := []) (rows2 := rows2) (w' := w') (ok := okF w' (roots.set k (.arr (g + 1) false sz rows2)) (upd Fk k [b]) []) (cap := cap) (b := b) c.at' (upd_same gh k ⟨b, sz, cap, false⟩) (by simpa using hle)
        simpa using this
    · have c := chg_nil (own' := true) (rows2 := rows2) h hk happ X (fun y hy => hy) h.heldN
      have hx := h.ext c (Nat.le_of_lt hlt)
      obtain ⟨hbe, hnew⟩ := happ.new
      refine ⟨v, w', _, _, hrun, h.step c (Nat.le_of_lt hlt) (.own (g0 := ⟨b, sz, cap, false⟩) (g + 1) rows2 cur e' fr X rfl happ.blk happ.free happ.csz hle happ.max hs2 ?_), hx, ?_⟩
      · simp only; rw [hcs]
        exact (hO rfl).mono fun y hy => hnew.old y (h.heldM y hy).1
      · rw [happ.val]
        have := app_val (rows := []) (rows2 := rows2) (w' := w') (ok := okF w' (roots.set k (.arr (g + 1) true sz rows2)) (upd Fk k (b :: X)) []) (cap := cap) (b := b) c.at' (upd_same gh k ⟨b, sz, cap, false⟩) (by simpa using hle)
        simpa using this

/-- Append to a root, what comes is owned. -/
theorem append_own {t u ty e : Nat} {ie : TI} (hs : SlT P t e ie) {d : TypeDesc} (hu : P.underlying u = some d) (hd : ∀ k, d ≠ .int k) (h : HX C roots gh Fk X w) {k g sz : Nat} {rows rows2 : List (List VV)}
    (hk : roots[k]? = some (.arr g true sz rows)) (hsz : ie.size = sz) {s x : Value} (hv : VRs (okF w roots Fk X) w roots gh [.rs k g 0 rows.length] [s]) {news : List Value}
    (hn : News P w ie.size x rows2.length news) (hO : OWs w rows2.flatten news X) (hs2 : ∀ r ∈ rows2, r.length = sz) (hb : (rows.length + rows2.length) * ie.bytes ≤ 140737488355328) (hsm : rows.length + rows2.length ≤ 9223372036854775807) :
    ∃ v w' gh' Fk', (Builtin.append_ #[t, u] ty #[s, x]).run P w = .ok v w' ∧ HX C (roots.set k (.arr (g + 1) true sz (rows ++ rows2))) gh' Fk' [] w' ∧
      Ext roots gh Fk X w (roots.set k (.arr (g + 1) true sz (rows ++ rows2))) gh' Fk' [] w' ∧
      VRs (okF w' (roots.set k (.arr (g + 1) true sz (rows ++ rows2))) Fk' []) w' (roots.set k (.arr (g + 1) true sz (rows ++ rows2))) gh' [.rs k (g + 1) 0 (rows.length + rows2.length)] [v] := by
  obtain ⟨inf, z, hinf, his, hib, hz, hzz, _, _, hzs, _⟩ := hs.he.info
  cases hv with
  | sc hs _ => cases hs
  | rs k g lo n v ho hg hh t' =>
  obtain ⟨a, c, rfl, _, hnc, h0⟩ := hh true _ rows hk
  obtain ⟨rfl, rfl⟩ := h0 rfl
  rcases h.arr hk with ⟨hgz, ⟨rfl, hnil, hcap, _⟩ | ⟨hnz, _⟩⟩
  · have e1 : (gh k).base = none := by simp [Gh.base, hnil]
    rw [e1, hcap]
    have := append_root_nil (own' := true) (ty := ty) hs hu hd h hk hnil hcap hsz hgz hn (fun _ => hO) (fun ok h1 _ => hO.ro h1) hs2 (by simpa using hb) (by simpa using hsm)
    simpa using this
  have e1 : (gh k).base = some ⟨(gh k).b, 0, none⟩ := by simp [Gh.base, hnz]
  rw [e1]
  have h1 := h.one k _ hk
  have hnd := h.nodup k _ hk
  have hlt := (List.getElem?_eq_some_iff.1 hk).1
  have hap := h.heldA k _ hk
  have htail : ∀ y ∈ (Fk k).tail, y ∈ (Fk k).tail ∨ y ∈ X := fun y hy => .inl hy
  generalize hF : Fk k = F at h1 hnd hap
  cases h1 with
  | none0 g own hz' hc' => rw [hnz] at hz'; cases hz'
  | own g rows cur0 e0 fr0 F0 hz0 hb0 hf0 hs0 hn0 hm0 hsz0 h' =>
  rw [List.nodup_cons] at hnd
  obtain ⟨v, w', b, cap, cur, e', fr, hrun, happ⟩ := run_append (ty := ty) (n := rows.length) (cap := (gh k).cap) (b0 := some (gh k).b) (olds := cur0.toList.take (rows.length * (gh k).sz)) hs.ht hu hd hinf hz (by rw [hzs, his]) (his ▸ hn)
    (.inr ⟨(gh k).b, cur0, e0, fr0, rfl, rfl, hb0, hf0, by rw [his, hsz]; exact hs0, hn0, hm0, by rw [his, hsz]⟩) (by rw [hib]; exact hb) hsm
  rw [his, hsz] at happ
  have c := chg_app (own' := true) (rows2 := rows2) h hk hnz happ (F0 ++ X) (fun y hy => by rw [hF]; simpa using hy) (List.nodup_append.2 ⟨hnd.2, h.heldN, fun a ha b hb e => hap a (by simp [ha]) (e ▸ hb)⟩)
  have hx := h.ext c (Nat.le_of_lt hlt)
  have hold : ∀ y, (y ∈ F0 ∨ y ∈ X) → w'.heap[y]? = w.heap[y]? := fun y hy => by
    have h2 : y < w.heap.size := by
      rcases hy with hy | hy
      · exact (h.mine k _ hk y (by rw [hF]; simp [hy])).1
      · exact (h.heldM y hy).1
    refine c.same y h2 (by
      simp only [List.mem_singleton]
      intro e; subst e
      rcases hy with hy | hy
      · exact hnd.1 hy
      · exact hap _ (by simp) hy)
  refine ⟨v, w', _, _, hrun, h.step c (Nat.le_of_lt hlt) (.own (g0 := ⟨b, (gh k).sz, cap, false⟩) (g + 1) (rows ++ rows2) cur e' fr (F0 ++ X) rfl happ.blk happ.free happ.csz ?_ happ.max ?_ ?_), hx, ?_⟩
  · rw [List.length_append]; exact happ.le
  · intro r hr
    rcases List.mem_append.1 hr with hr | hr
    · exact hsz0 r hr
    · exact hs2 r hr
  · rw [List.flatten_append, List.length_append]
    have := happ.cells
    simp only at this ⊢
    rw [this]
    exact (h'.mono fun y hy => hold y (.inl hy)).app (hO.mono fun y hy => hold y (.inr hy))
  · rw [happ.val]
    exact app_val c.at' (upd_same _ _ _) happ.le

/-- Append to a root, what comes reads. -/
theorem append_shared {t u ty e : Nat} {ie : TI} (hs : SlT P t e ie) {d : TypeDesc} (hu : P.underlying u = some d) (hd : ∀ k, d ≠ .int k) (h : HX C roots gh Fk X w) {k g sz : Nat} {own : Bool} {rows rows2 : List (List VV)}
    (hk : roots[k]? = some (.arr g own sz rows)) (hsz : ie.size = sz) {s x : Value} (hv : VRs (okF w roots Fk X) w roots gh [.rs k g 0 rows.length] [s]) {news : List Value}
    (hn : News P w ie.size x rows2.length news) (hR : ∀ ok : Nat → Prop, (∀ b ∈ X, ok b) → (∀ b, okF w roots Fk X none b → ok b) → RO ok w rows2.flatten news)
    (hs2 : ∀ r ∈ rows2, r.length = sz) (hb : (rows.length + rows2.length) * ie.bytes ≤ 140737488355328) (hsm : rows.length + rows2.length ≤ 9223372036854775807) :
    ∃ v w' gh' Fk', (Builtin.append_ #[t, u] ty #[s, x]).run P w = .ok v w' ∧ HX C (roots.set k (.arr (g + 1) false sz (rows ++ rows2))) gh' Fk' [] w' ∧
      Ext roots gh Fk X w (roots.set k (.arr (g + 1) false sz (rows ++ rows2))) gh' Fk' [] w' ∧
      VRs (okF w' (roots.set k (.arr (g + 1) false sz (rows ++ rows2))) Fk' []) w' (roots.set k (.arr (g + 1) false sz (rows ++ rows2))) gh' [.rs k (g + 1) 0 (rows.length + rows2.length)] [v] := by
  obtain ⟨inf, z, hinf, his, hib, hz, hzz, _, _, hzs, _⟩ := hs.he.info
  cases hv with
  | sc hs _ => cases hs
  | rs k g lo n v ho hg hh t' =>
  obtain ⟨a, c, rfl, _, hnc, h0⟩ := hh own _ rows hk
  obtain ⟨rfl, rfl⟩ := h0 rfl
  rcases h.arr hk with ⟨hsze, ⟨rfl, hnil, hcap, _⟩ | ⟨hnz, cur0, e0, fr0, hb0, hs0, hn0, hsz0, hro⟩⟩
  · have e1 : (gh k).base = none := by simp [Gh.base, hnil]
    rw [e1, hcap]
    have := append_root_nil (own' := false) (ty := ty) hs hu hd h hk hnil hcap hsz hsze hn (fun e => by cases e) hR hs2 (by simpa using hb) (by simpa using hsm)
    simpa using this
  have e1 : (gh k).base = some ⟨(gh k).b, 0, none⟩ := by simp [Gh.base, hnz]
  rw [e1]
  have hnd := h.nodup k _ hk
  have hlt := (List.getElem?_eq_some_iff.1 hk).1
  have hap := h.heldA k _ hk
  have hbase : (gh k).b ∈ Fk k := (h.one k _ hk).base rfl hnz
  have h1 := h.one k _ hk
  have hcons : Fk k = (gh k).b :: (Fk k).tail := by
    generalize Fk k = F at h1
    cases h1 <;> first | rfl | simp_all
  have hfree : ∃ cur0 e0 fr0, w.heap[(gh k).b]? = some (.cells cur0 e0 fr0) ∧ Free cur0.size fr0 ∧ (gh k).cap ≤ maxLen := by
    generalize Fk k = F at h1
    cases h1 with
    | none0 g own hz' hc' => rw [hnz] at hz'; cases hz'
    | own g rows cur e fr F hz' hb hf hs hn' hm hsz h' => exact ⟨cur, e, fr, hb, hf, hm⟩
    | shared g rows cur e fr hz' hb hf hs hn' hm hsz h' => exact ⟨cur, e, fr, hb, hf, hm⟩
  obtain ⟨cur1, e1, fr1, hb1, hf1, hm1⟩ := hfree
  rw [hb1] at hb0
  cases hb0
  obtain ⟨v, w', b, cap, cur, e', fr, hrun, happ⟩ := run_append (ty := ty) (n := rows.length) (cap := (gh k).cap) (b0 := some (gh k).b) (olds := cur0.toList.take (rows.length * (gh k).sz)) hs.ht hu hd hinf hz (by rw [hzs, his]) (his ▸ hn)
    (.inr ⟨(gh k).b, cur0, e0, fr0, rfl, rfl, hb1, hf1, by rw [his, hsz, hsze]; exact hs0, hn0, hm1, by rw [his, hsz, hsze]⟩) (by rw [hib]; exact hb) hsm
  rw [his, hsz] at happ
  have c := chg_app (own' := false) (rows2 := rows2) h hk hnz happ [] (fun y hy => by cases hy) .nil
  have hx := h.ext c (Nat.le_of_lt hlt)
  have hbnew : ∀ y, (y ∈ (Fk k).tail ∨ y ∈ X) → y < w.heap.size ∧ y ≠ b ∧ y ≠ (gh k).b ∧ ∀ j R, roots[j]? = some R → j ≠ k → y ∉ Fk j := fun y hy => by
    have h2 : y < w.heap.size := by
      rcases hy with hy | hy
      · exact (h.mine k _ hk y (List.mem_of_mem_tail hy)).1
      · exact (h.heldM y hy).1
    have h3 : y ≠ (gh k).b := fun e => by
      subst e
      rcases hy with hy | hy
      · rw [hcons, List.nodup_cons] at hnd; exact hnd.1 hy
      · exact hap _ hbase hy
    refine ⟨h2, fun e => ?_, h3, fun j R hR hj hm => ?_⟩
    · subst e
      rcases happ.where' with ⟨e, _⟩ | ⟨e, _⟩
      · cases e; exact h3 rfl
      · omega
    · rcases hy with hy | hy
      · exact h.apart k j _ R hk hR (Ne.symm hj) y (List.mem_of_mem_tail hy) hm
      · exact h.heldA j R hR y hm hy
  have hokb : ∀ y, (y ∈ (Fk k).tail ∨ y ∈ X) → okF w' (roots.set k (.arr (g + 1) false sz (rows ++ rows2))) (upd Fk k [b]) [] none y ∧ w'.heap[y]? = w.heap[y]? := fun y hy => by
    obtain ⟨h2, h3, h4, h5⟩ := hbnew y hy
    refine ⟨⟨Nat.lt_of_lt_of_le h2 c.size, by simp, fun j R hR hm => ?_⟩, c.same y h2 (by simpa using h4)⟩
    by_cases e : j = k
    · subst e; rw [upd_same] at hm; simp at hm; exact h3 hm
    · rw [upd_other _ _ e] at hm; rw [c.other j e] at hR; exact h5 j R hR e hm
  refine ⟨v, w', _, _, hrun, h.step c (Nat.le_of_lt hlt) (.shared (g0 := ⟨b, sz, cap, false⟩) (g + 1) (rows ++ rows2) cur e' fr rfl happ.blk happ.free happ.csz ?_ happ.max ?_ ?_), hx, ?_⟩
  · rw [List.length_append]; exact happ.le
  · intro r hr
    rcases List.mem_append.1 hr with hr | hr
    · rw [hsz0 r hr]; exact hsze.symm
    · exact hs2 r hr
  · rw [List.flatten_append, List.length_append]
    have := happ.cells
    simp only at this ⊢
    rw [this]
    refine RO.app ?_ ?_
    · refine hro.mono fun y hy => ?_
      cases own
      · exact hx.keep none rfl rfl y hy
      · exact hokb y (.inl hy.2)
    · have h3 := hR (fun y => y ∈ X ∨ okF w roots Fk X none y) (fun y hy => .inl hy) (fun y hy => .inr hy)
      refine h3.mono fun y hy => ?_
      rcases hy with hy | hy
      · exact hokb y (.inr hy)
      · exact hx.keep none rfl rfl y hy
  · rw [happ.val]
    exact app_val c.at' (upd_same _ _ _) happ.le

/-- Append to the nil slice, what comes is owned. -/
theorem append_nil_own {t u ty e : Nat} {ie : TI} (hs : SlT P t e ie) {d : TypeDesc} (hu : P.underlying u = some d) (hd : ∀ k, d ≠ .int k) (h : HX C roots gh Fk X w) {rows2 : List (List VV)} {x : Value} {news : List Value}
    (hn : News P w ie.size x rows2.length news) (hO : OWs w rows2.flatten news X) (hs2 : ∀ r ∈ rows2, r.length = ie.size) (hpos : 0 < rows2.length) (hb : rows2.length * ie.bytes ≤ 140737488355328) (hsm : rows2.length ≤ 9223372036854775807) :
    ∃ v w' gh' Fk', (Builtin.append_ #[t, u] ty #[.slice none 0 0, x]).run P w = .ok v w' ∧ HX C (roots ++ [.arr 0 true ie.size rows2]) gh' Fk' [] w' ∧
      Ext roots gh Fk X w (roots ++ [.arr 0 true ie.size rows2]) gh' Fk' [] w' ∧
      VRs (okF w' (roots ++ [.arr 0 true ie.size rows2]) Fk' []) w' (roots ++ [.arr 0 true ie.size rows2]) gh' [.rs roots.length 0 0 rows2.length] [v] := by
  obtain ⟨inf, z, hinf, his, hib, hz, hzz, _, _, hzs, _⟩ := hs.he.info
  obtain ⟨v, w', b, cap, cur, e', fr, hrun, happ⟩ := run_append (ty := ty) (n := 0) (cap := 0) (b0 := none) (olds := []) hs.ht hu hd hinf hz (by rw [hzs, his]) (his ▸ hn)
    (.inl ⟨rfl, rfl, rfl, rfl, hpos⟩) (by rw [hib, Nat.zero_add]; exact hb) (by omega)
  rw [his] at happ
  obtain ⟨rfl, hnew⟩ := happ.new
  have hcs := happ.cells
  have hle := happ.le
  simp only [Nat.zero_add, List.nil_append] at hcs hle
  obtain ⟨gh', Fk', h1, h2, h3⟩ := h.pushOwn (X' := []) (sz := ie.size) (rows := rows2) e' cap happ.free happ.csz hle happ.max hs2 (by rw [hcs]; exact hO) (fun b hb => by simpa using hb) (by simpa using h.heldN) hnew
  refine ⟨v, w', gh', Fk', hrun, h1, h2, ?_⟩
  rw [happ.val, Nat.zero_add]; exact h3

/-- Append to the nil slice, what comes reads. -/
theorem append_nil_shared {t u ty e : Nat} {ie : TI} (hs : SlT P t e ie) {d : TypeDesc} (hu : P.underlying u = some d) (hd : ∀ k, d ≠ .int k) (h : HX C roots gh Fk X w) {rows2 : List (List VV)} {x : Value} {news : List Value}
    (hn : News P w ie.size x rows2.length news) (hR : ∀ ok : Nat → Prop, (∀ b ∈ X, ok b) → (∀ b, okF w roots Fk X none b → ok b) → RO ok w rows2.flatten news) (hs2 : ∀ r ∈ rows2, r.length = ie.size) (hpos : 0 < rows2.length)
    (hb : rows2.length * ie.bytes ≤ 140737488355328) (hsm : rows2.length ≤ 9223372036854775807) :
    ∃ v w' gh' Fk', (Builtin.append_ #[t, u] ty #[.slice none 0 0, x]).run P w = .ok v w' ∧ HX C (roots ++ [.arr 0 false ie.size rows2]) gh' Fk' [] w' ∧
      Ext roots gh Fk X w (roots ++ [.arr 0 false ie.size rows2]) gh' Fk' [] w' ∧
      VRs (okF w' (roots ++ [.arr 0 false ie.size rows2]) Fk' []) w' (roots ++ [.arr 0 false ie.size rows2]) gh' [.rs roots.length 0 0 rows2.length] [v] := by
  obtain ⟨inf, z, hinf, his, hib, hz, hzz, _, _, hzs, _⟩ := hs.he.info
  obtain ⟨v, w', b, cap, cur, e', fr, hrun, happ⟩ := run_append (ty := ty) (n := 0) (cap := 0) (b0 := none) (olds := []) hs.ht hu hd hinf hz (by rw [hzs, his]) (his ▸ hn)
    (.inl ⟨rfl, rfl, rfl, rfl, hpos⟩) (by rw [hib, Nat.zero_add]; exact hb) (by omega)
  rw [his] at happ
  obtain ⟨rfl, hnew⟩ := happ.new
  have hcs := happ.cells
  have hle := happ.le
  simp only [Nat.zero_add, List.nil_append] at hcs hle
  have hd := HX.drop (X := X) (X' := []) (by simpa using h)
  rw [List.append_nil] at hd
  have hro : RO (okF w roots Fk [] none) w rows2.flatten news := hR _ (fun b hb => ⟨(h.heldM b hb).1, by simp, fun k R hR hm => h.heldA k R hR b hm hb⟩) (fun b hb => ⟨hb.1, by simp, hb.2.2⟩)
  obtain ⟨gh', Fk', h1, h2, h3⟩ := hd.1.pushShared (sz := ie.size) (rows := rows2) e' cap happ.free happ.csz hle happ.max hs2 (by rw [hcs]; exact hro) hnew
  refine ⟨v, w', gh', Fk', hrun, h1, hd.2.trans h2, ?_⟩
  rw [happ.val, Nat.zero_add]; exact h3

end
end Go.Proofs.YtjldkpggcjolcaaV
