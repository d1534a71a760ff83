/- What is appended. Conditions: the table of types fits the program. -/
import Derived.Test.YtjldkpggcjolcaaV17
namespace Go.Proofs.YtjldkpggcjolcaaV
set_option linter.unusedVariables false
set_option linter.unusedSimpArgs false

section
variable {P : Program} {T : Tbl} {C : Cx} {roots roots' : List Root} {gh gh' : Nat → Gh} {Fk Fk' : Nat → List Nat} {X X' : List Nat} {w w' : World} {env : List (Nat × VV)} {a : Act}

theorem RO.scs {ok : Nat → Prop} {cs : List VV} {vs : List Value} (h : RO ok w cs vs) (ha : cs.all isSc = true) : Scs cs vs := by
  induction h with
  | nil => exact .nil
  | sc h t ih => simp only [List.all_cons, Bool.and_eq_true] at ha; exact .cons h (ih ha.2)
  | tr0 sz a cap t ih => simp [isSc] at ha
  | tr rows b off cap sz cells hok hsz hc hcap h1 t _ ih => simp [isSc] at ha

theorem all_flat {rows : List (List VV)} (h : ∀ r ∈ rows, r.all isSc = true) : rows.flatten.all isSc = true := by
  simp only [List.all_eq_true, List.mem_flatten] at h ⊢
  rintro x ⟨r, hr, hx⟩
  exact h r hr x hx

/-- The cells that a readable slice brings. -/
theorem RO.news {ok : Nat → Prop} {sz : Nat} {rows : List (List VV)} {x : Value} (h : RO ok w [.tr sz rows] [x]) (hlt : ∀ b, ok b → b < w.heap.size) : ∃ news, News P w sz x rows.length news ∧ RO ok w rows.flatten news ∧ (rows ≠ [] → ∀ r ∈ rows, r.length = sz) := by
  cases h with
  | sc h _ => cases h
  | tr0 sz a cap t =>
    refine ⟨[], ⟨fun w' => rfl, fun w' _ => ?_, by simp, by simp⟩, .nil, fun h => absurd rfl h⟩
    cases a with
    | none => simp [Builtin.firstCells]
    | some x => simp [Builtin.firstCells, loadCells, loadCellsFrom]
  | tr rows b off cap sz cells hok hsz hc hcap hf t =>
    have hl : cells.length = rows.length * sz := by rw [hf.length, flatten_length_sz sz rows hsz]
    refine ⟨cells, ⟨fun w' => rfl, fun w' hw => ?_, hl, hf.one⟩, hf, fun _ => hsz⟩
    exact run_firstCells_some w' sz rows.length ⟨b, off, none⟩ _ cap cells hl (fun j v hj => by rw [Addr.add_lit]; exact hw.cell (hc j v hj))

/-- What 'newsOf' tells. -/
structure NewsOk (P : Program) (C : Cx) (roots : List Root) (gh : Nat → Gh) (Fk : Nat → List Nat) (w : World) (size : Nat) (x : Value) (rows2 : List (List VV)) (roots1 : List Root) (own2 : Bool) (Fk1 : Nat → List Nat) (X1 : List Nat) (news : List Value) : Prop where
  hx : HX C roots1 gh Fk1 X1 w
  ext : Ext roots gh Fk [] w roots1 gh Fk1 X1 w
  nw : News P w size x rows2.length news
  owns : own2 = true → OWs w rows2.flatten news X1
  reads : ∀ ok : Nat → Prop, (∀ b ∈ X1, ok b) → (∀ b, okF w roots1 Fk1 X1 none b → ok b) → RO ok w rows2.flatten news
  sz : ∀ r ∈ rows2, r.length = size

theorem okF_lt {tag : Option (Nat × Nat)} {b : Nat} (h : okF w roots Fk X tag b) : b < w.heap.size := by cases tag <;> exact h.1

theorem news_scs (hx : HX C roots gh Fk [] w) {size : Nat} {x : Value} {rows2 : List (List VV)} {ok : Nat → Prop} (hlt : ∀ b, ok b → b < w.heap.size) (h : RO ok w [.tr size rows2] [x]) (ha : ∀ r ∈ rows2, r.all isSc = true) :
    ∃ news, NewsOk P C roots gh Fk w size x rows2 roots true Fk [] news := by
  obtain ⟨news, hn, hro, hs⟩ := h.news (P := P) hlt
  have hsc := hro.scs (all_flat ha)
  refine ⟨news, hx, .refl, hn, fun _ => hsc.ows, fun ok _ _ => hsc.ro, fun r hr => ?_⟩
  exact hs (fun e => by subst e; cases hr) r hr

theorem newsOf_ok (hx : HX C roots gh Fk [] w) {ie : TI} {c : VV} {x : Value} {rows2 : List (List VV)} {roots1 : List Root} {own2 : Bool} {side : Prop} (h : newsOf ie roots c = some (rows2, roots1, own2, side)) (hside : side)
    (hv : VRs (okF w roots Fk []) w roots gh [c] [x]) : ∃ Fk1 X1 news, NewsOk P C roots gh Fk w ie.size x rows2 roots1 own2 Fk1 X1 news := by
  cases c
  case str l =>
    simp only [newsOf, Option.some.injEq, Prod.mk.injEq] at h
    obtain ⟨rfl, rfl, rfl, rfl⟩ := h
    obtain rfl := hv.str
    obtain ⟨h1, h2⟩ := byteRows_len l
    have hsz : (⟨l.toArray⟩ : ByteArray).size = l.length := by simp [ByteArray.size]
    refine ⟨Fk, [], l.map fun b => Value.int .u8 b.toNat, hx, .refl, ⟨fun w' => by simp [Builtin.lenOf, hsz, h1], fun w' _ => ?_, by simp [h1, hside], (byteRows_scs l).one⟩, fun _ => (byteRows_scs l).ows, fun ok _ _ => (byteRows_scs l).ro, by rw [hside]; exact h2⟩
    simp only [Builtin.firstCells, Sem.run_pure, h1]
    congr 1
    apply Array.ext'
    simp [ByteArray.data_extract]
  case nils =>
    simp only [newsOf, Option.some.injEq, Prod.mk.injEq] at h
    obtain ⟨rfl, rfl, rfl, rfl⟩ := h
    have hsc := isSc_ok rfl hv
    cases hsc
    exact ⟨Fk, [], [], hx, .refl, ⟨fun w' => rfl, fun w' _ => by simp [Builtin.firstCells], by simp, by simp⟩, fun _ => .nil, fun _ _ _ => .nil, by simp⟩
  case sl tag sz rows =>
    simp only [newsOf] at h
    split at h
    · rename_i htg
      cases hv with
      | sc hs _ => cases hs
      | sl tag sz rows x ho hk hh t =>
      have hro := hh htg
      split at h
      · simp only [Option.some.injEq, Prod.mk.injEq] at h
        obtain ⟨rfl, rfl, rfl, rfl⟩ := h
        obtain ⟨rfl, ha⟩ := hside
        obtain ⟨news, hn⟩ := news_scs (P := P) hx (fun b hb => okF_lt hb) hro ha
        exact ⟨Fk, [], news, hn⟩
      · cases tag with
        | some y => simp at h
        | none =>
          simp only [Option.some.injEq, Prod.mk.injEq] at h
          obtain ⟨rfl, rfl, rfl, rfl⟩ := h
          subst hside
          obtain ⟨news, hn, hf, hs⟩ := hro.news (P := P) (fun b hb => okF_lt hb)
          refine ⟨Fk, [], news, hx, .refl, hn, fun e => (by cases e), fun ok _ h2 => hf.mono fun b hb => ⟨h2 b hb, rfl⟩, fun r hr => hs (fun e => by subst e; cases hr) r hr⟩
    · cases h
  case rs k g lo n =>
    simp only [newsOf] at h
    split at h
    · rename_i g' own sz rows hk
      split at h
      · rename_i hg
        subst hg
        split at h
        · rename_i hc
          obtain ⟨rfl, rfl, _⟩ := hc
          simp only [Option.some.injEq, Prod.mk.injEq] at h
          obtain ⟨rfl, rfl, rfl, rfl⟩ := h
          obtain ⟨ht1, ht2⟩ := hx.take hk
          rcases hx.arr hk with ⟨hsze, ⟨rfl, hnil, hcap, hF⟩ | ⟨hnz, cur, e, fr, hb, hs, hn, hsz, hro⟩⟩
          · cases hv with
            | sc hs _ => cases hs
            | rs k g lo n x ho hg hh t =>
            obtain ⟨a, c, rfl, _, hnc, h0⟩ := hh own sz _ hk
            obtain ⟨rfl, rfl⟩ := h0 rfl
            rw [hF, List.append_nil] at ht1 ht2
            have e1 : (gh k).base = none := by simp [Gh.base, hnil]
            rw [e1, hcap]
            refine ⟨_, [], [], ht1, ht2, ⟨fun w' => rfl, fun w' _ => by simp [Builtin.firstCells], by simp, by simp⟩, fun _ => .nil, fun _ _ _ => .nil, by simp⟩
          have hcons : ∃ F0, Fk k = (gh k).b :: F0 := by
            have h1 := hx.one k _ hk
            generalize Fk k = F at h1
            cases h1 <;> first | exact ⟨_, rfl⟩ | simp_all
          obtain ⟨F0, hF⟩ := hcons
          have eb : (gh k).base = some ⟨(gh k).b, 0, none⟩ := by simp [Gh.base, hnz]
          rw [hF, List.append_nil, show (gh k).b :: F0 = [(gh k).b] ++ F0 from rfl] at ht1 ht2
          obtain ⟨hd1, hd2⟩ := ht1.drop
          cases hv with
          | sc hs _ => cases hs
          | rs k g lo n x ho hg hh t =>
          obtain ⟨a, c, rfl, _, hnc, h0⟩ := hh own sz _ hk
          obtain ⟨rfl, rfl⟩ := h0 rfl
          rw [eb]
          have hl : (cur.toList.take (rows.length * (gh k).sz)).length = rows.length * (gh k).sz := by
            have : rows.length * (gh k).sz ≤ cur.size := by rw [hs]; exact Nat.mul_le_mul_right _ hn
            simp; omega
          have hnews : News P w ie.size (.slice (some ⟨(gh k).b, 0, none⟩) rows.length (gh k).cap) rows.length (cur.toList.take (rows.length * (gh k).sz)) := by
            have hone := hro.one
            rw [← hsze, hside] at hl hone ⊢
            refine ⟨fun w' => rfl, fun w' hw => run_firstCells_some w' ie.size rows.length ⟨(gh k).b, 0, none⟩ _ _ _ hl (fun j v hj => ?_), hl, hone⟩
            rw [List.getElem?_take] at hj
            split at hj
            · rw [Addr.add_lit, Nat.zero_add]
              exact hw.cell (by rw [cell_blk hb]; exact hj)
            · cases hj
          refine ⟨_, F0, _, hd1, ht2.trans hd2, hnews, fun e => ?_, fun ok h1 h2 => ?_, by rw [← hside, hsze]; exact hsz⟩
          · subst e
            have h1 := hx.one k _ hk
            rw [hF] at h1
            cases h1 with
            | own g rows cur' e' fr' F0' hz' hb' hf' hs' hn' hm' hsz' h' => rw [hb] at hb'; cases hb'; exact h'
          · refine hro.mono fun b hb' => ⟨?_, rfl⟩
            cases own
            · exact h2 b ((ht2.trans hd2).keep none rfl rfl b hb').1
            · have : b ∈ (Fk k).tail := hb'.2
              rw [hF] at this
              exact h1 b this
        · split at h
          · split at h
            · rename_i hle
              simp only [Option.some.injEq, Prod.mk.injEq] at h
              obtain ⟨rfl, rfl, rfl, rfl⟩ := h
              obtain ⟨rfl, ha⟩ := hside
              obtain ⟨sz', hro, hsz'⟩ := rowsOf_ok (rows := (rows.drop lo).take n) hx (by simp [rowsOf, hk, hle]) hv
              have : ie.size = sz' := hsz' _ (by simp [szOf, hk])
              subst this
              obtain ⟨news, hn⟩ := news_scs (P := P) hx (fun b hb => hb) hro ha
              exact ⟨Fk, [], news, hn⟩
            · cases h
          · cases h
      · cases h
    · cases h
  all_goals simp [newsOf] at h
end
end Go.Proofs.YtjldkpggcjolcaaV
