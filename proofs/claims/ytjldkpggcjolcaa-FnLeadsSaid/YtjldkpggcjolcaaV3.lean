/- The pure operations: what they give, and that the machine's give the same. Conditions: the table of types fits the program. -/
import Derived.Test.YtjldkpggcjolcaaV2
namespace Go.Proofs.YtjldkpggcjolcaaV
set_option linter.unusedVariables false
set_option linter.unusedSimpArgs false

/-- A tree's slice, met in a value that reads. -/
def lift (tag : Option (Nat × Nat)) : VV → VV
  | .tr sz r => .sl tag sz r
  | c => c

/-- The rows that a slice's value reads as. -/
def rowsOf (roots : List Root) : VV → Option (List (List VV))
  | .nils => some []
  | .sl tag _ rows => if tagOk roots tag then some rows else none
  | .rs k g lo n => match roots[k]? with
    | some (.arr g' _ _ rows) => if g = g' ∧ lo + n ≤ rows.length then some ((rows.drop lo).take n) else none
    | _ => none
  | _ => none

/-- The tag under which a root's rows are met. -/
def tagOf (k g : Nat) (own : Bool) : Option (Nat × Nat) := if own then some (k, g) else none

/-- The cells that a pointer's value leads to: those of its row, from the row's begin on, and where it points. -/
def cellsAt (roots : List Root) : VV → Option (List VV × Nat)
  | .ptr k g i off => match roots[k]? with
    | some (.box cells) => some (cells, off)
    | some (.arr g' own _ rows) => if g = g' then (rows[i]?).map fun r => (r.map (lift (tagOf k g own)), off) else none
    | _ => none
  | .rp tag row off => if tagOk roots tag then some (row.map (lift tag), off) else none
  | _ => none

def vload (i : TI) (roots : List Root) (p : VV) : Option VV :=
  match cellsAt roots p with
  | some (cells, off) => if i.k.isAgg then (if off + i.size ≤ cells.length then some (.agg ((cells.drop off).take i.size)) else none) else cells[off]?
  | none => none

section
variable {P : Program} {T : Tbl} {C : Cx} {roots : List Root} {gh : Nat → Gh} {Fk : Nat → List Nat} {X : List Nat} {w : World}

/-- Old memory stands. -/
def Same (w w' : World) : Prop := ∀ b, b < w.heap.size → w'.heap[b]? = w.heap[b]?

theorem Same.refl (w : World) : Same w w := fun _ _ => rfl
theorem Same.cell {w w' : World} (h : Same w w') {p : Addr} {v : Value} (hc : w.cell? p = some v) : w'.cell? p = some v := by
  rw [World.cell?_of_block (w := w) (h p.block (World.block_lt_of_cell? w _ hc))]; exact hc

theorem HR1.base {ok : Option (Nat × Nat) → Nat → Prop} {g0 : Gh} {R : Root} {F : List Nat} (h : HR1 ok w roots gh g0 R F) (hl : R.live = true) (hz : g0.nil = false) : g0.b ∈ F := by
  cases h with
  | dead => cases hl
  | frame snap F h => cases hl
  | none0 g own h1 h2 => rw [hz] at h1; cases h1
  | _ => simp

theorem HR1.baseBox {ok : Option (Nat × Nat) → Nat → Prop} {g0 : Gh} {cells : List VV} {F : List Nat} (h : HR1 ok w roots gh g0 (.box cells) F) : g0.b ∈ F := by
  cases h with
  | _ => simp

theorem HX.arr (hr : HX C roots gh Fk X w) {k g sz : Nat} {own : Bool} {rows : List (List VV)} (hk : roots[k]? = some (.arr g own sz rows)) :
    sz = (gh k).sz ∧ ((rows = [] ∧ (gh k).nil = true ∧ (gh k).cap = 0 ∧ Fk k = []) ∨ (gh k).nil = false ∧ ∃ (cur : Array Value) (e : TypeId) (fr : Nat × Nat), w.heap[(gh k).b]? = some (.cells cur e fr) ∧ cur.size = (gh k).cap * (gh k).sz ∧ rows.length ≤ (gh k).cap ∧ (∀ r ∈ rows, r.length = (gh k).sz) ∧
      RO (okF w roots Fk X (tagOf k g own)) w rows.flatten (cur.toList.take (rows.length * (gh k).sz))) := by
  have h1 := hr.one k _ hk
  have hm := hr.mine k _ hk
  generalize hF : Fk k = F at h1 hm
  cases h1 with
  | none0 g own hz hc => exact ⟨rfl, .inl ⟨rfl, hz, hc, rfl⟩⟩
  | own g rows cur e fr F hz hb hf hs hn hmx hsz h =>
    exact ⟨rfl, .inr ⟨hz, cur, e, fr, hb, hs, hn, hsz, h.ro fun b hb' => ⟨(hm b (by simp [hb'])).1, by rw [hF]; exact hb'⟩⟩⟩
  | shared g rows cur e fr hz hb hf hs hn hmx hsz h => exact ⟨rfl, .inr ⟨hz, cur, e, fr, hb, hs, hn, hsz, h⟩⟩

theorem HX.arr1 (hr : HX C roots gh Fk X w) {k g sz : Nat} {own : Bool} {rows : List (List VV)} (hk : roots[k]? = some (.arr g own sz rows)) (hne : rows ≠ []) :
    sz = (gh k).sz ∧ (gh k).nil = false ∧ ∃ (cur : Array Value) (e : TypeId) (fr : Nat × Nat), w.heap[(gh k).b]? = some (.cells cur e fr) ∧ cur.size = (gh k).cap * (gh k).sz ∧ rows.length ≤ (gh k).cap ∧ (∀ r ∈ rows, r.length = (gh k).sz) ∧
      RO (okF w roots Fk X (tagOf k g own)) w rows.flatten (cur.toList.take (rows.length * (gh k).sz)) := by
  obtain ⟨h1, h | h⟩ := hr.arr hk
  · exact absurd h.1 hne
  · exact ⟨h1, h⟩

/-- A row of a flat list of cells. -/
theorem flat_row {α : Type} (sz : Nat) : ∀ (rows : List (List α)), (∀ r ∈ rows, r.length = sz) → ∀ (i : Nat) (r : List α), rows[i]? = some r → (rows.flatten.drop (i * sz)).take sz = r
  | [], _, i, r, h => by simp at h
  | x :: rows, hs, 0, r, h => by
    simp at h; subst h
    have := hs x (by simp)
    subst this
    simp
  | x :: rows, hs, i + 1, r, h => by
    have hx := hs x (by simp)
    rw [List.flatten_cons, show (i + 1) * sz = x.length + i * sz by rw [Nat.add_mul, hx]; omega, ← List.drop_drop, List.drop_left]
    exact flat_row sz rows (fun y hy => hs y (by simp [hy])) i r (by simpa using h)

theorem RO.row {ok : Nat → Prop} {sz : Nat} {rows : List (List VV)} {cells : List Value} (h : RO ok w rows.flatten cells) (hs : ∀ r ∈ rows, r.length = sz) {i : Nat} {r : List VV}
    (hi : rows[i]? = some r) : RO ok w r ((cells.drop (i * sz)).take sz) := by
  have := ((h.split (i * sz)).2.split sz).1
  rwa [flat_row sz rows hs i r hi] at this

/-- Cells that read, met in slots. -/
theorem RO.lift {ok : Option (Nat × Nat) → Nat → Prop} {cs : List VV} {vs : List Value} (tag : Option (Nat × Nat)) (h : RO (ok tag) w cs vs) (hk : ∀ k g, tag = some (k, g) → genLe roots k g) :
    VRs ok w roots gh (cs.map (lift tag)) vs := by
  induction h with
  | nil => exact .nil
  | sc h _ ih =>
    cases h <;> first | exact .sc (.int _ _) ih | exact .sc (.bool _) ih | exact .sc (.str _) ih | exact .sc .nilp ih | exact .sc .nils ih | exact .sc .nilf ih | exact .sc .nili ih | exact .sc (.err _ _) ih | exact .sc (.fn _) ih
  | tr0 sz a cap _ ih => exact .sl tag sz [] _ rfl hk (fun _ => .tr0 sz a cap .nil) ih
  | tr rows b off cap sz cells hok hsz hc hcap h1 _ _ ih => exact .sl tag sz rows _ rfl hk (fun _ => .tr rows b off cap sz cells hok hsz hc hcap h1 .nil) ih

theorem row_in {sz : Nat} {rows : List (List VV)} (hs : ∀ r ∈ rows, r.length = sz) {i : Nat} {r : List VV} (hi : rows[i]? = some r) : r.length = sz ∧ i * sz + sz ≤ rows.length * sz ∧ i < rows.length := by
  have hlt := (List.getElem?_eq_some_iff.1 hi).1
  refine ⟨hs r (List.mem_of_getElem? hi), ?_, hlt⟩
  have := Nat.mul_le_mul_right sz (show i + 1 ≤ rows.length by omega)
  rw [Nat.add_mul] at this; omega

theorem cell_blk {cur : Array Value} {e : TypeId} {fr : Nat × Nat} {b : Nat} (hb : w.heap[b]? = some (.cells cur e fr)) (q : Nat) : w.cell? ⟨b, q, none⟩ = cur.toList[q]? := by
  simp [World.cell?, hb]

/-- What a pointer leads to. -/
theorem cellsAt_ok (hr : HX C roots gh Fk X w) {c : VV} {v : Value} {cells : List VV} {off : Nat} (h : cellsAt roots c = some (cells, off)) (hv : VRs (okF w roots Fk X) w roots gh [c] [v]) :
    ∃ b o us, v = .pointer (some ⟨b, o + off, none⟩) ∧ (∀ q u, us[q]? = some u → w.cell? ⟨b, o + q, none⟩ = some u) ∧ VRs (okF w roots Fk X) w roots gh cells us ∧ (∀ u ∈ us, u.oneCell' = true) := by
  cases c with
  | ptr k g i off' =>
    simp only [cellsAt] at h
    cases hv with
    | sc hs _ => cases hs
    | ptr k g i off' v ho hk hbx har t =>
    split at h
    · rename_i cs hk'
      simp only [Option.some.injEq, Prod.mk.injEq] at h
      obtain ⟨rfl, rfl⟩ := h
      have h1 := hr.one k _ hk'
      generalize hF : Fk k = F at h1
      cases h1 with
      | box cells cur T fr hb hf h h1 =>
        refine ⟨(gh k).b, 0, cur.toList, by rw [hbx _ hk', Nat.zero_add], fun q u hu => ?_, h, h1⟩
        rw [Nat.zero_add, cell_blk hb]; exact hu
    · rename_i g' own sz rows hk'
      split at h
      · rename_i hg
        subst hg
        simp only [Option.map_eq_some_iff, Prod.mk.injEq] at h
        obtain ⟨r, hri, hr1, rfl⟩ := h
        subst hr1
        obtain ⟨_, _, cur, e, fr, hb, hs, hn, hsz, hro⟩ := hr.arr1 hk' (fun e => by rw [e] at hri; cases hri)
        have hrow := hro.row hsz hri
        obtain ⟨hl, hle, hlt⟩ := row_in hsz hri
        refine ⟨(gh k).b, i * (gh k).sz, _, har _ _ _ hk', fun q u hu => ?_, RO.lift _ hrow (fun k' g' e => ?_), hrow.one⟩
        · rw [cell_blk hb]
          rw [List.getElem?_take] at hu
          split at hu
          · rw [List.getElem?_drop, List.getElem?_take] at hu
            split at hu
            · exact hu
            · cases hu
          · cases hu
        · unfold tagOf at e
          split at e
          · cases e; exact hk
          · cases e
      · cases h
    · cases h
  | rp tag row off' =>
    simp only [cellsAt] at h
    cases hv with
    | sc hs _ => cases hs
    | rp tag row off' v ho hk hh t =>
    split at h
    · rename_i ht
      simp only [Option.some.injEq, Prod.mk.injEq] at h
      obtain ⟨rfl, rfl⟩ := h
      obtain ⟨b, o, cells, rfl, hok, hro, hc⟩ := hh ht
      exact ⟨b, o, cells, rfl, hc, RO.lift tag hro hk, hro.one⟩
    · cases h
  | _ => simp [cellsAt] at h

theorem tk_agg {t : Nat} {i : TI} (h : TyOk P t i) (w : World) : (isAgg t).run P w = .ok i.k.isAgg w := by
  obtain ⟨d, hd, hm⟩ := h.desc
  simp only [isAgg, Sem.run_bind, run_underlying hd, Result.andThen_ok]
  cases hk : i.k <;> simp only [hk] at hm <;> simp only [TK.isAgg]
  case struct fs => obtain ⟨fields, rfl, _⟩ := hm; rfl
  case func => obtain ⟨a, b, c, rfl⟩ := hm; rfl
  case other => cases d <;> first | exact hm.elim | rfl
  all_goals subst hm; rfl

theorem ty_size {t : Nat} {i : TI} (h : TyOk P t i) (w : World) : (sizeOf t).run P w = .ok i.size w := by
  obtain ⟨inf, z, hi, hs, _⟩ := h.info
  simp [sizeOf, typeInfo, hi, hs]

theorem vload_ok {t : Nat} {i : TI} (hT : TyOk P t i) (hr : HX C roots gh Fk X w) {p c : VV} {v : Value} (h : vload i roots p = some c) (hv : VRs (okF w roots Fk X) w roots gh [p] [v]) :
    ∃ u, (∀ w', Same w w' → (Instr.loadAt t v).run P w' = .ok u w') ∧ VRs (okF w roots Fk X) w roots gh [c] [u] := by
  unfold vload at h
  split at h
  · rename_i cells off hc
    obtain ⟨b, o, us, rfl, hus, hcs, h1⟩ := cellsAt_ok hr hc hv
    split at h
    · rename_i hagg
      split at h
      · rename_i hle
        cases h
        have hl := hcs.length
        refine ⟨.agg ((us.drop off).take i.size).toArray, fun w' hw => ?_, .agg _ _ ((hcs.split off).2.split i.size).1 (fun u hu => h1 u (List.mem_of_mem_drop (List.mem_of_mem_take hu))) .nil⟩
        have hlen : ((us.drop off).take i.size).length = i.size := by simp; omega
        have hlc := run_loadCells_list (P := P) (w := w') ⟨b, o + off, none⟩ ((us.drop off).take i.size) (fun j u hj => by
          rw [List.getElem?_take] at hj
          split at hj
          · rw [List.getElem?_drop] at hj
            rw [Addr.add_lit, Nat.add_assoc]
            exact hw.cell (hus _ _ hj)
          · cases hj)
        rw [hlen] at hlc
        simp [Instr.loadAt, Instr.sureAddr, loadVar, tk_agg hT, hagg, ty_size hT, hlc]
      · cases h
    · rename_i hagg
      obtain ⟨u, hu, hcu⟩ := hcs.get off c h
      refine ⟨u, fun w' hw => ?_, hcu⟩
      have := hw.cell (hus off u hu)
      simp [Instr.loadAt, Instr.sureAddr, loadVar, tk_agg hT, hagg, this]
  · cases h
end
end Go.Proofs.YtjldkpggcjolcaaV
