/- New roots; what a slice owns, handed on. Conditions: those of each theorem. -/
import Derived.Test.YtjldkpggcjolcaaV10
namespace Go.Proofs.YtjldkpggcjolcaaV
set_option linter.unusedVariables false
set_option linter.unusedSimpArgs false

section
variable {C : Cx} {roots roots' : List Root} {gh gh' : Nat → Gh} {Fk Fk' : Nat → List Nat} {X X' : List Nat} {w w' : World}

theorem alloc_new (w : World) (o : Obj) : (w.alloc o).heap[w.heap.size]? = some o := by show (w.heap.push o)[w.heap.size]? = _; simp
theorem alloc_old (w : World) (o : Obj) {b : Nat} (h : b < w.heap.size) : (w.alloc o).heap[b]? = w.heap[b]? := RowKit.Below.heap_alloc w o b h
theorem alloc_size (w : World) (o : Obj) : (w.alloc o).heap.size = w.heap.size + 1 := by show (w.heap.push o).size = _; simp

/-- One block more, all else as it was. -/
structure New (w w' : World) (o : Obj) : Prop where
  os : w'.os = w.os
  tape : w'.tape = w.tape
  output : w'.output = w.output
  size : w'.heap.size = w.heap.size + 1
  old : ∀ b, b < w.heap.size → w'.heap[b]? = w.heap[b]?
  new : w'.heap[w.heap.size]? = some o

theorem new_alloc (w : World) (o : Obj) : New w (w.alloc o) o := ⟨rfl, rfl, rfl, alloc_size w o, fun _ h => alloc_old w o h, alloc_new w o⟩

theorem Kept.new (h : Kept C w) {o : Obj} (hn : New w w' o) : Kept C w' :=
  ⟨hn.os.trans h.os, hn.tape.trans h.tape, hn.output.trans h.output, Nat.le_trans h.size (by rw [hn.size]; omega), fun b hb hnb => by
    rw [← h.block b hb hnb]
    exact hn.old b (Nat.lt_of_lt_of_le hb h.size)⟩

/-- What is held may be held in another order. -/
theorem HX.perm (h : HX C roots gh Fk X w) (hm : ∀ b, b ∈ X' ↔ b ∈ X) (hn : X'.Nodup) : HX C roots gh Fk X' w := by
  have hok : ∀ tag b, okF w roots Fk X tag b → okF w roots Fk X' tag b := by
    intro tag b hb
    cases tag with
    | none => exact ⟨hb.1, fun h => hb.2.1 ((hm b).1 h), hb.2.2⟩
    | some x => exact hb
  exact ⟨h.kept, fun k R hR => (h.one k R hR).mono (fun _ _ => rfl) (.refl _ _) (fun tag _ _ b hb => ⟨hok tag b hb, rfl⟩), h.nodup, h.apart, h.mine, hn, fun k R hR b hb hb' => h.heldA k R hR b hb ((hm b).1 hb'),
    fun b hb => h.heldM b ((hm b).1 hb)⟩

/-- What is held may be let go. -/
theorem HX.drop (h : HX C roots gh Fk (X ++ X') w) : HX C roots gh Fk X' w ∧ Ext roots gh Fk (X ++ X') w roots gh Fk X' w := by
  have hok : ∀ tag b, okF w roots Fk (X ++ X') tag b → okF w roots Fk X' tag b := by
    intro tag b hb
    cases tag with
    | none => exact ⟨hb.1, fun h => hb.2.1 (by simp [h]), hb.2.2⟩
    | some x => exact hb
  refine ⟨⟨h.kept, fun k R hR => (h.one k R hR).mono (fun _ _ => rfl) (.refl _ _) (fun tag _ _ b hb => ⟨hok tag b hb, rfl⟩), h.nodup, h.apart, h.mine, (List.nodup_append.1 h.heldN).2.1,
    fun k R hR b hb hb' => h.heldA k R hR b hb (by simp [hb']), fun b hb => h.heldM b (by simp [hb])⟩, ⟨.refl _ _, fun tag _ _ b hb => ⟨hok tag b hb, rfl⟩⟩⟩

/-- A root's blocks, held. -/
theorem HX.take (h : HX C roots gh Fk X w) {k : Nat} {R : Root} (hk : roots[k]? = some R) :
    HX C (roots.set k .dead) gh (upd Fk k []) (Fk k ++ X) w ∧ Ext roots gh Fk X w (roots.set k .dead) gh (upd Fk k []) (Fk k ++ X) w := by
  have hlt := (List.getElem?_eq_some_iff.1 hk).1
  have c : Chg C roots gh Fk X w k (roots.set k .dead) .dead (gh k) [] (Fk k ++ X) [] w := {
    kept := h.kept
    le := by simp
    at' := by simp [hlt]
    other := fun j hj => by simp [List.getElem?_set, Ne.symm hj]
    size := Nat.le_refl _
    same := fun _ _ _ => rfl
    wr := fun b hb => by cases hb
    sub := fun b hb => by
      simp only [List.nil_append, List.mem_append] at hb
      rcases hb with hb | hb
      · exact .inl ⟨hlt, hb⟩
      · exact .inr (.inl hb)
    nd := by
      simp only [List.nil_append]
      exact List.nodup_append.2 ⟨h.nodup k R hk, h.heldN, fun a ha b hb e => h.heldA k R hk a ha (e ▸ hb)⟩
    lt := fun b hb => by
      simp only [List.nil_append, List.mem_append] at hb
      rcases hb with hb | hb
      · exact (h.mine k R hk b hb).1
      · exact (h.heldM b hb).1
    cbox := fun _ e => by cases e
    carr := fun _ _ _ _ e => by cases e }
  have e : upd gh k (gh k) = gh := by funext j; simp only [upd]; split <;> simp_all
  have h1 := h.step c (Nat.le_of_lt hlt) .dead
  have h2 := h.ext c (Nat.le_of_lt hlt)
  rw [e] at h1 h2
  exact ⟨h1, h2⟩

theorem getElem?_push {α : Type} (l : List α) (x : α) (k : Nat) (h : k ≠ l.length) : (l ++ [x])[k]? = l[k]? := by
  rcases Nat.lt_or_gt_of_ne h with h | h
  · rw [List.getElem?_append_left h]
  · rw [List.getElem?_eq_none (by simp; omega), List.getElem?_eq_none (by omega)]

/-- A new block; what is held may go into it. -/
theorem chg_push (h : HX C roots gh Fk X w) (R' : Root) (g' : Gh) (F X1 : List Nat) {o : Obj} (hw : New w w' o) (hp : ∀ b, b ∈ F ++ X1 → b ∈ X) (hn : (F ++ X1).Nodup) :
    Chg C roots gh Fk X w roots.length (roots ++ [R']) R' g' (w.heap.size :: F) X1 [] w' where
  kept := h.kept.new hw
  le := by simp
  at' := by simp
  other := fun k hk => getElem?_push _ _ _ hk
  size := by rw [hw.size]; omega
  same := fun b hb _ => hw.old b hb
  wr := fun b hb => by cases hb
  sub := fun b hb => by
    simp only [List.cons_append, List.mem_cons] at hb
    rcases hb with rfl | hb
    · exact .inr (.inr (Nat.le_refl _))
    · exact .inr (.inl (hp b hb))
  nd := by
    rw [List.cons_append, List.nodup_cons]
    exact ⟨fun hm => by have := (h.heldM _ (hp _ hm)).1; omega, hn⟩
  lt := fun b hb => by
    rw [hw.size]
    simp only [List.cons_append, List.mem_cons] at hb
    rcases hb with rfl | hb
    · omega
    · have := (h.heldM b (hp b hb)).1; omega
  cbox := fun _ _ hl => absurd hl (by omega)
  carr := fun _ _ _ _ _ hl => absurd hl (by omega)

/-- A variable's cells. -/
theorem HX.pushBox (h : HX C roots gh Fk X w) {cs : List VV} {us : List Value} (hv : VRs (okF w roots Fk X) w roots gh cs us) (h1 : ∀ u ∈ us, u.oneCell' = true) (T : TypeId) (hw : New w w' (.cells us.toArray T)) :
    ∃ gh' Fk', HX C (roots ++ [.box cs]) gh' Fk' X w' ∧ Ext roots gh Fk X w (roots ++ [.box cs]) gh' Fk' X w' ∧
      VRs (okF w' (roots ++ [.box cs]) Fk' X) w' (roots ++ [.box cs]) gh' [.ptr roots.length 0 0 0] [.pointer (some ⟨w.heap.size, 0, none⟩)] := by
  have c := chg_push h (.box cs) ⟨w.heap.size, 0, 0, false⟩ [] X hw (fun b hb => by simpa using hb) (by simpa using h.heldN)
  have hx := h.ext c (Nat.le_refl _)
  refine ⟨_, _, h.step c (Nat.le_refl _) (.box cs us.toArray T (0, 0) hw.new (fun q _ hq => by simp at hq) (by simpa using hx.vrs hv) (by simpa using h1)), hx, ?_⟩
  refine .ptr _ _ _ _ _ rfl ⟨by simp, fun g' own sz rows hr => Nat.zero_le _⟩ (fun cells _ => by rw [upd_same]) (fun own sz rows hr => ?_) .nil
  simp at hr

/-- A row that owns what is held. -/
theorem HX.pushOwn (h : HX C roots gh Fk X w) {sz : Nat} {rows : List (List VV)} {cur : Array Value} (e : TypeId) (cap : Nat) {fr : Nat × Nat} (hf : Free cur.size fr) (hs : cur.size = cap * sz) (hn : rows.length ≤ cap) (hm : cap ≤ maxLen)
    (hsz : ∀ r ∈ rows, r.length = sz) {F : List Nat} (hv : OWs w rows.flatten (cur.toList.take (rows.length * sz)) F) (hF : ∀ b, b ∈ F ++ X' → b ∈ X) (hn' : (F ++ X').Nodup) (hw : New w w' (.cells cur e fr)) :
    ∃ gh' Fk', HX C (roots ++ [.arr 0 true sz rows]) gh' Fk' X' w' ∧ Ext roots gh Fk X w (roots ++ [.arr 0 true sz rows]) gh' Fk' X' w' ∧
      VRs (okF w' (roots ++ [.arr 0 true sz rows]) Fk' X') w' (roots ++ [.arr 0 true sz rows]) gh' [.rs roots.length 0 0 rows.length] [.slice (some ⟨w.heap.size, 0, none⟩) rows.length cap] := by
  have c := chg_push h (.arr 0 true sz rows) ⟨w.heap.size, sz, cap, false⟩ F X' hw hF hn'
  have hx := h.ext c (Nat.le_refl _)
  refine ⟨_, _, h.step c (Nat.le_refl _) (.own (g0 := ⟨w.heap.size, sz, cap, false⟩) 0 rows cur e fr F rfl hw.new hf hs hn hm hsz (hv.mono fun b hb => hw.old _ (h.heldM b (hF b (by simp [hb]))).1)), hx, ?_⟩
  refine .rs _ _ _ _ _ rfl ⟨by simp, fun g' own sz rows hr => Nat.zero_le _⟩ (fun own sz' rows' hr => ⟨_, _, rfl, fun _ => by rw [upd_same]; simp, hn, fun _ => by rw [upd_same]; simp [Gh.base]⟩) .nil

/-- A row whose cells read. -/
theorem HX.pushShared (h : HX C roots gh Fk X w) {sz : Nat} {rows : List (List VV)} {cur : Array Value} (e : TypeId) (cap : Nat) {fr : Nat × Nat} (hf : Free cur.size fr) (hs : cur.size = cap * sz) (hn : rows.length ≤ cap) (hm : cap ≤ maxLen)
    (hsz : ∀ r ∈ rows, r.length = sz) (hv : RO (okF w roots Fk X none) w rows.flatten (cur.toList.take (rows.length * sz))) (hw : New w w' (.cells cur e fr)) :
    ∃ gh' Fk', HX C (roots ++ [.arr 0 false sz rows]) gh' Fk' X w' ∧ Ext roots gh Fk X w (roots ++ [.arr 0 false sz rows]) gh' Fk' X w' ∧
      VRs (okF w' (roots ++ [.arr 0 false sz rows]) Fk' X) w' (roots ++ [.arr 0 false sz rows]) gh' [.rs roots.length 0 0 rows.length] [.slice (some ⟨w.heap.size, 0, none⟩) rows.length cap] := by
  have c := chg_push h (.arr 0 false sz rows) ⟨w.heap.size, sz, cap, false⟩ [] X hw (fun b hb => by simpa using hb) (by simpa using h.heldN)
  have hx := h.ext c (Nat.le_refl _)
  refine ⟨_, _, h.step c (Nat.le_refl _) (.shared (g0 := ⟨w.heap.size, sz, cap, false⟩) 0 rows cur e fr rfl hw.new hf hs hn hm hsz (hv.mono (hx.keep none rfl rfl))), hx, ?_⟩
  refine .rs _ _ _ _ _ rfl ⟨by simp, fun g' own sz rows hr => Nat.zero_le _⟩ (fun own sz' rows' hr => ⟨_, _, rfl, fun _ => by rw [upd_same]; simp, hn, fun _ => by rw [upd_same]; simp [Gh.base]⟩) .nil

/-- Whether a cell is a scalar. -/
def isSc : VV → Bool
  | .int _ _ | .bool _ | .str _ | .nilp | .nils | .nilf | .nili | .err | .fn _ [] => true
  | _ => false

/-- Slots' cells, as a tree's: what they own goes with them. 'own': nothing of it is shared. -/
def vseal (roots : List Root) : List VV → List (Option Nat) → Option (List VV × List Root × Bool)
  | [], _ => some ([], roots, true)
  | c :: cs, sls =>
    match c with
    | .sl none sz rows => (vseal roots cs sls.tail).map fun r => (.tr sz rows :: r.1, r.2.1, false)
    | .rs k g lo n => match roots[k]? with
      | some (.arr g' own sz rows) => if g = g' ∧ lo = 0 ∧ n = rows.length then (vseal (roots.set k .dead) cs sls.tail).map fun r => (.tr sz rows :: r.1, r.2.1, own && r.2.2) else none
      | _ => none
    | .nils => match sls.head? with
      | some (some sz) => (vseal roots cs sls.tail).map fun r => (.tr sz [] :: r.1, r.2.1, r.2.2)
      | _ => none
    | c => if isSc c then (vseal roots cs sls.tail).map fun r => (c :: r.1, r.2.1, r.2.2) else none

theorem isSc_ok {ok : Option (Nat × Nat) → Nat → Prop} {c : VV} {v : Value} (h : isSc c = true) (hv : VRs ok w roots gh [c] [v]) : Sc c v := by
  cases hv with
  | sc h' t => exact h'
  | fn f ds us h' t =>
    cases ds with
    | nil =>
      have := h'.length
      have : us = [] := List.eq_nil_of_length_eq_zero (by simpa using this)
      subst this
      exact .fn f
    | cons _ _ => cases h
  | _ => cases h

/-- What a whole root's slice owns. -/
theorem HX.whole (h : HX C roots gh Fk X w) {k g sz : Nat} {own : Bool} {rows : List (List VV)} {v : Value} (hk : roots[k]? = some (.arr g own sz rows))
    (hv : VRs (okF w roots Fk X) w roots gh [.rs k g 0 rows.length] [v]) :
    (own = true → OWs w [.tr sz rows] [v] (Fk k)) ∧ (∀ ok : Nat → Prop, (∀ b ∈ Fk k, ok b) → (∀ b, okF w roots Fk X none b → ok b) → RO ok w [.tr sz rows] [v]) := by
  cases hv with
  | sc hs _ => cases hs
  | rs k g lo n v ho hg hh t =>
  obtain ⟨a, c, rfl, _, hn, h0⟩ := hh own sz rows hk
  obtain ⟨rfl, rfl⟩ := h0 rfl
  have h1 := h.one k _ hk
  generalize hF : Fk k = F at h1
  cases h1 with
  | none0 g own hz hc =>
    have h1 : (gh k).base = none := by simp [Gh.base, hz]
    rw [h1, hc]
    exact ⟨fun _ => .tr0 _ .nil, fun ok _ _ => .tr0 _ none 0 .nil⟩
  | own g rows cur e fr F hz hb hf hs hn' hm hsz h' =>
    have h1 : (gh k).base = some ⟨(gh k).b, 0, none⟩ := by simp [Gh.base, hz]
    rw [h1]
    have hO : OWs w [.tr (gh k).sz rows] [.slice (some ⟨(gh k).b, 0, none⟩) rows.length (gh k).cap] ((gh k).b :: (F ++ [])) := .tr rows (gh k).b (gh k).cap (gh k).sz cur e fr F hb hf hs hn' hm hsz h' .nil
    rw [List.append_nil] at hO
    exact ⟨fun _ => hO, fun ok ho _ => hO.ro ho⟩
  | shared g rows cur e fr hz hb hf hs hn' hm hsz h' =>
    have h1 : (gh k).base = some ⟨(gh k).b, 0, none⟩ := by simp [Gh.base, hz]
    rw [h1]
    refine ⟨fun e => (by cases e), fun ok ho hno => ?_⟩
    refine .tr rows (gh k).b 0 (gh k).cap (gh k).sz (cur.toList.take (rows.length * (gh k).sz)) (ho _ (by simp)) hsz (fun q u hu => ?_) hn' (h'.mono fun b hb => ⟨hno b hb, rfl⟩) .nil
    rw [List.getElem?_take] at hu
    split at hu
    · rw [Nat.zero_add, cell_blk hb]; exact hu
    · cases hu
end
end Go.Proofs.YtjldkpggcjolcaaV
