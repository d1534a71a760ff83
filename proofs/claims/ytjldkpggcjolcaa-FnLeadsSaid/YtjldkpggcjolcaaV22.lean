/- What a call hands back, and how the caller takes it. Conditions: those of each theorem. -/
import Derived.Test.YtjldkpggcjolcaaV21
namespace Go.Proofs.YtjldkpggcjolcaaV
set_option linter.unusedVariables false
set_option linter.unusedSimpArgs false

/-- One-cell parts: what reads, what owns. -/
inductive RC (ok : Nat → Prop) (w : World) : List VV → List Value → List Nat → Prop
  | nil : RC ok w [] [] []
  | undef {cs vs G} (v : Value) (ho : v.oneCell' = true) (t : RC ok w cs vs G) : RC ok w (.undef :: cs) (v :: vs) G
  | sc {c v cs vs G} (h : Sc c v) (t : RC ok w cs vs G) : RC ok w (c :: cs) (v :: vs) G
  | sl {cs vs G} (sz : Nat) (rows : List (List VV)) (v : Value) (ho : v.oneCell' = true) (h : RO ok w [.tr sz rows] [v]) (t : RC ok w cs vs G) : RC ok w (.sl none sz rows :: cs) (v :: vs) G
  | tr {cs vs F G} (sz : Nat) (rows : List (List VV)) (v : Value) (h : OWs w [.tr sz rows] [v] F) (t : RC ok w cs vs G) : RC ok w (.tr sz rows :: cs) (v :: vs) (F ++ G)

/-- Whole results. -/
inductive RVs (ok : Nat → Prop) (w : World) : List VV → List Value → List Nat → Prop
  | nil : RVs ok w [] [] []
  | one {c v cs vs F G} (h : RC ok w [c] [v] F) (t : RVs ok w cs vs G) : RVs ok w (c :: cs) (v :: vs) (F ++ G)
  | agg {cs vs F G} (ds : List VV) (us : List Value) (h : RC ok w ds us F) (t : RVs ok w cs vs G) : RVs ok w (.agg ds :: cs) (.agg us.toArray :: vs) (F ++ G)

/-- The result of a call: one value, or several. -/
def Res (ok : Nat → Prop) (w : World) (res : VV) (v : Value) (F : List Nat) : Prop :=
  match res with
  | .tup ds => ∃ us : List Value, v = .tuple us.toArray ∧ RVs ok w ds us F
  | c => RVs ok w [c] [v] F

def adoptCs (roots : List Root) : List VV → List VV × List Root
  | [] => ([], roots)
  | c :: cs => match c with
    | .tr sz rows => ((.rs roots.length 0 0 rows.length) :: (adoptCs (roots ++ [.arr 0 true sz rows]) cs).1, (adoptCs (roots ++ [.arr 0 true sz rows]) cs).2)
    | c => (c :: (adoptCs roots cs).1, (adoptCs roots cs).2)

def adoptVs (roots : List Root) : List VV → List VV × List Root
  | [] => ([], roots)
  | c :: cs => match c with
    | .agg ds => (.agg (adoptCs roots ds).1 :: (adoptVs (adoptCs roots ds).2 cs).1, (adoptVs (adoptCs roots ds).2 cs).2)
    | c => ((adoptCs roots [c]).1 ++ (adoptVs (adoptCs roots [c]).2 cs).1, (adoptVs (adoptCs roots [c]).2 cs).2)

def adopt (roots : List Root) (res : VV) : VV × List Root :=
  match res with
  | .tup ds => (.tup (adoptVs roots ds).1, (adoptVs roots ds).2)
  | .agg ds => (.agg (adoptCs roots ds).1, (adoptCs roots ds).2)
  | .tr sz rows => (.rs roots.length 0 0 rows.length, roots ++ [.arr 0 true sz rows])
  | c => (c, roots)

section
variable {C : Cx} {roots roots' : List Root} {gh gh' : Nat → Gh} {Fk Fk' : Nat → List Nat} {X X' : List Nat} {w w' : World}

/-- What is held becomes a root. -/
theorem chg_hold {F : List Nat} (h : HX C roots gh Fk (F ++ X) w) (R' : Root) (g' : Gh) (hb : ∀ cells, R' ≠ .box cells) : Chg C roots gh Fk (F ++ X) w roots.length (roots ++ [R']) R' g' F X [] w where
  kept := h.kept
  le := by simp
  at' := by simp
  other := fun k hk => getElem?_push _ _ _ hk
  size := Nat.le_refl _
  same := fun b hb _ => rfl
  wr := fun b hb => by cases hb
  sub := fun b hb => .inr (.inl hb)
  nd := h.heldN
  lt := fun b hb => (h.heldM b hb).1
  cbox := fun _ _ hl => absurd hl (by omega)
  carr := fun _ _ _ _ _ hl => absurd hl (by omega)

theorem adopt1 {sz : Nat} {rows : List (List VV)} {v : Value} {F : List Nat} (hO : OWs w [.tr sz rows] [v] F) (h : HX C roots gh Fk (F ++ X) w) :
    ∃ gh' Fk', HX C (roots ++ [.arr 0 true sz rows]) gh' Fk' X w ∧ Ext roots gh Fk (F ++ X) w (roots ++ [.arr 0 true sz rows]) gh' Fk' X w ∧
      VRs (okF w (roots ++ [.arr 0 true sz rows]) Fk' X) w (roots ++ [.arr 0 true sz rows]) gh' [.rs roots.length 0 0 rows.length] [v] := by
  cases hO with
  | sc h _ => cases h
  | tr0 sz t =>
    cases t
    have c := chg_hold (F := []) h (.arr 0 true sz []) ⟨0, sz, 0, true⟩ (fun _ e => by cases e)
    refine ⟨_, _, h.step c (Nat.le_refl _) (.none0 (g0 := ⟨0, sz, 0, true⟩) 0 true rfl rfl), h.ext c (Nat.le_refl _), ?_⟩
    refine .rs _ _ _ _ _ rfl ⟨by simp, fun g' own sz rows hr => Nat.zero_le _⟩ (fun own sz' rows' hr => ⟨_, _, rfl, fun h => absurd rfl h, Nat.le_refl _, fun _ => by rw [upd_same]; simp [Gh.base]⟩) .nil
  | tr rows b cap sz cur e fr F hb hf hs hn hm hsz h1 t =>
    cases t
    rw [List.append_nil] at h
    have c := chg_hold (F := b :: F) h (.arr 0 true sz rows) ⟨b, sz, cap, false⟩ (fun _ e => by cases e)
    rw [List.append_nil]
    refine ⟨_, _, h.step c (Nat.le_refl _) (.own (g0 := ⟨b, sz, cap, false⟩) 0 rows cur e fr F rfl hb hf hs hn hm hsz h1), h.ext c (Nat.le_refl _), ?_⟩
    refine .rs _ _ _ _ _ rfl ⟨by simp, fun g' own sz rows hr => Nat.zero_le _⟩ (fun own sz' rows' hr => ⟨_, _, rfl, fun _ => by rw [upd_same]; simp, hn, fun _ => by rw [upd_same]; simp [Gh.base]⟩) .nil

theorem adoptCs_ok {ok : Nat → Prop} {cs : List VV} {vs : List Value} {F : List Nat} (h : RC ok w cs vs F) : ∀ (roots : List Root) (gh : Nat → Gh) (Fk : Nat → List Nat) (X : List Nat), (∀ b, ok b → okF w roots Fk (F ++ X) none b) → HX C roots gh Fk (F ++ X) w →
    ∃ gh' Fk', HX C (adoptCs roots cs).2 gh' Fk' X w ∧ Ext roots gh Fk (F ++ X) w (adoptCs roots cs).2 gh' Fk' X w ∧ VRs (okF w (adoptCs roots cs).2 Fk' X) w (adoptCs roots cs).2 gh' (adoptCs roots cs).1 vs ∧ (∀ u ∈ vs, u.oneCell' = true) := by
  induction h with
  | nil => intro roots gh Fk X hok hx; exact ⟨gh, Fk, hx, .refl, .nil, by simp⟩
  | undef v ho _ ih =>
    intro roots gh Fk X hok hx
    obtain ⟨gh', Fk', h1, h2, h3, h4⟩ := ih roots gh Fk X hok hx
    exact ⟨gh', Fk', h1, h2, .undef v h3, by simp [ho]; exact h4⟩
  | @sc c v cs vs G hs _ ih =>
    intro roots gh Fk X hok hx
    obtain ⟨gh', Fk', h1, h2, h3, h4⟩ := ih roots gh Fk X hok hx
    have e : adoptCs roots (c :: cs) = (c :: (adoptCs roots cs).1, (adoptCs roots cs).2) := by cases hs <;> rfl
    rw [e]
    exact ⟨gh', Fk', h1, h2, .sc hs h3, by simp [hs.one]; exact h4⟩
  | sl sz rows v ho hr _ ih =>
    intro roots gh Fk X hok hx
    obtain ⟨gh', Fk', h1, h2, h3, h4⟩ := ih roots gh Fk X hok hx
    exact ⟨gh', Fk', h1, h2, .sl none sz rows v ho (fun _ _ e => by cases e) (fun _ => hr.mono fun b hb => ⟨(h2.keep none rfl rfl b (hok b hb)).1, rfl⟩) h3, by simp [ho]; exact h4⟩
  | @tr cs vs F G sz rows v hO _ ih =>
    intro roots gh Fk X hok hx
    rw [List.append_assoc] at hok hx
    obtain ⟨gh1, Fk1, a1, a2, a3⟩ := adopt1 hO hx
    obtain ⟨gh', Fk', h1, h2, h3, h4⟩ := ih _ gh1 Fk1 X (fun b hb => (a2.keep none rfl rfl b (hok b hb)).1) a1
    rw [List.append_assoc]
    exact ⟨gh', Fk', h1, a2.trans h2, VRs.app (h2.vrs a3) h3, by simp [hO.one v (by simp)]; exact h4⟩

theorem adoptVs_ok {ok : Nat → Prop} {cs : List VV} {vs : List Value} {F : List Nat} (h : RVs ok w cs vs F) : ∀ (roots : List Root) (gh : Nat → Gh) (Fk : Nat → List Nat) (X : List Nat), (∀ b, ok b → okF w roots Fk (F ++ X) none b) → HX C roots gh Fk (F ++ X) w →
    ∃ gh' Fk', HX C (adoptVs roots cs).2 gh' Fk' X w ∧ Ext roots gh Fk (F ++ X) w (adoptVs roots cs).2 gh' Fk' X w ∧ VRs (okF w (adoptVs roots cs).2 Fk' X) w (adoptVs roots cs).2 gh' (adoptVs roots cs).1 vs := by
  induction h with
  | nil => intro roots gh Fk X hok hx; exact ⟨gh, Fk, hx, .refl, .nil⟩
  | @one c v cs vs F G hc _ ih =>
    intro roots gh Fk X hok hx
    rw [List.append_assoc] at hok hx
    obtain ⟨gh1, Fk1, a1, a2, a3, _⟩ := adoptCs_ok hc roots gh Fk (G ++ X) hok hx
    obtain ⟨gh', Fk', h1, h2, h3⟩ := ih _ gh1 Fk1 X (fun b hb => (a2.keep none rfl rfl b (hok b hb)).1) a1
    rw [List.append_assoc]
    have e : adoptVs roots (c :: cs) = ((adoptCs roots [c]).1 ++ (adoptVs (adoptCs roots [c]).2 cs).1, (adoptVs (adoptCs roots [c]).2 cs).2) := by
      cases c <;> first | rfl | (cases hc with | sc h _ => cases h)
    rw [e]
    exact ⟨gh', Fk', h1, a2.trans h2, VRs.app (h2.vrs a3) h3⟩
  | @agg cs vs F G ds us hc _ ih =>
    intro roots gh Fk X hok hx
    rw [List.append_assoc] at hok hx
    obtain ⟨gh1, Fk1, a1, a2, a3, a4⟩ := adoptCs_ok hc roots gh Fk (G ++ X) hok hx
    obtain ⟨gh', Fk', h1, h2, h3⟩ := ih _ gh1 Fk1 X (fun b hb => (a2.keep none rfl rfl b (hok b hb)).1) a1
    rw [List.append_assoc]
    exact ⟨gh', Fk', h1, a2.trans h2, .agg _ _ (h2.vrs a3) a4 h3⟩

theorem adopt_ok {ok : Nat → Prop} {res : VV} {v : Value} {F : List Nat} (h : Res ok w res v F) (hok : ∀ b, ok b → okF w roots Fk (F ++ X) none b) (hx : HX C roots gh Fk (F ++ X) w) :
    ∃ gh' Fk', HX C (adopt roots res).2 gh' Fk' X w ∧ Ext roots gh Fk (F ++ X) w (adopt roots res).2 gh' Fk' X w ∧ VRs (okF w (adopt roots res).2 Fk' X) w (adopt roots res).2 gh' [(adopt roots res).1] [v] := by
  have plain : RVs ok w [res] [v] F → adoptVs roots [res] = ([(adopt roots res).1], (adopt roots res).2) → ∃ gh' Fk', HX C (adopt roots res).2 gh' Fk' X w ∧ Ext roots gh Fk (F ++ X) w (adopt roots res).2 gh' Fk' X w ∧ VRs (okF w (adopt roots res).2 Fk' X) w (adopt roots res).2 gh' [(adopt roots res).1] [v] := by
    intro h e
    have := adoptVs_ok h roots gh Fk X hok hx
    rw [e] at this
    exact this
  cases res with
  | tup ds =>
    obtain ⟨us, rfl, h⟩ := h
    obtain ⟨gh', Fk', h1, h2, h3⟩ := adoptVs_ok h roots gh Fk X hok hx
    exact ⟨gh', Fk', h1, h2, .tup _ _ h3 .nil⟩
  | _ => exact plain h rfl
end
end Go.Proofs.YtjldkpggcjolcaaV
