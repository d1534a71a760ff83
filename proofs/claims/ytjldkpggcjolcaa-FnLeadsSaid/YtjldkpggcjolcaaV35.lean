/- A law's arguments, read as trees. Conditions: those of each theorem. -/
import Derived.Test.YtjldkpggcjolcaaV34
import Derived.HandedShaped
import Derived.Shelf.Vars
namespace Go.Proofs.YtjldkpggcjolcaaV
set_option linter.unusedVariables false
set_option linter.unusedSimpArgs false
open Go.ChangeShapes Go.WideShapes

/-- What a cell of a type may be. -/
inductive Sh where
  | int (k : IntKind)
  | bool
  | str
  | sl (sz : Nat) (row : List Sh)
  deriving Inhabited

def shFs (P : Program) (sub : TypeId → Option (List Sh)) (total : Nat) : List Field → Nat → Option (List Sh)
  | [], pos => if pos = total then some [] else none
  | f :: r, pos => match sub f.type, shFs P sub total r (pos + P.cellsOf f.type) with
    | some a, some b => if f.offset = pos ∧ a.length = P.cellsOf f.type then some (a ++ b) else none
    | _, _ => none

def shOf (P : Program) : Nat → TypeId → Option (List Sh)
  | 0, _ => none
  | m + 1, t => match P.underlying t with
    | some (.int k) => some [.int k]
    | some .bool => some [.bool]
    | some .string => some [.str]
    | some (.slice e) => match shOf P m e with
      | some row => if row.length = P.cellsOf e ∧ 0 < row.length then some [.sl row.length row] else none
      | none => none
    | some (.struct fs) => shFs P (shOf P m) (P.cellsOf t) fs.toList 0
    | _ => none

/-- Cells of these shapes. -/
inductive Hs : List Sh → List VV → Prop
  | nil : Hs [] []
  | int {ss cs} (k : IntKind) (n : Int) (h : k.min ≤ n ∧ n ≤ k.max) (t : Hs ss cs) : Hs (.int k :: ss) (.int k n :: cs)
  | bool {ss cs} (b : Bool) (t : Hs ss cs) : Hs (.bool :: ss) (.bool b :: cs)
  | str {ss cs} (s : List UInt8) (h : s.length ≤ 9223372036854775807) (t : Hs ss cs) : Hs (.str :: ss) (.str s :: cs)
  | sl {ss cs} (sz : Nat) (row : List Sh) (rows : List (List VV)) (h : ∀ r ∈ rows, Hs row r) (hl : rows.length ≤ 9223372036854775807) (t : Hs ss cs) : Hs (.sl sz row :: ss) (.tr sz rows :: cs)

theorem Hs.length {ss : List Sh} {cs : List VV} (h : Hs ss cs) : cs.length = ss.length := by
  induction h <;> simp_all

theorem Hs.app {ss ts : List Sh} {cs ds : List VV} (h : Hs ss cs) (h' : Hs ts ds) : Hs (ss ++ ts) (cs ++ ds) := by
  induction h with
  | nil => exact h'
  | int k n hb _ ih => exact .int k n hb ih
  | bool b _ ih => exact .bool b ih
  | str s hb _ ih => exact .str s hb ih
  | sl sz row rows hr hl _ _ ih => exact .sl sz row rows hr hl ih

section
variable {H : Type} {enc : TypeId × Value → H} {P : Program} {w : World} {base : Nat} {spare : Nat → Bool} {held : Bool}

/-- Rows that lie one behind the other. -/
theorem rows_read {a : Addr} {sz : Nat} {row : List Sh} (hz : 0 < sz) (hrow : row.length = sz) : ∀ len : Nat,
    (∀ i, i < len → ∃ ccs r, w.cells? base (a.add (i * sz)) sz = some ccs ∧ Hs row r ∧ RO (· < w.heap.size) w r ccs) →
    ∃ (rows : List (List VV)) (cells : List Value), rows.length = len ∧ (∀ r ∈ rows, Hs row r) ∧ RO (· < w.heap.size) w rows.flatten cells ∧ cells.length = len * sz ∧ ∀ q u, cells[q]? = some u → w.cell? (a.add q) = some u
  | 0, _ => ⟨[], [], rfl, by simp, .nil, by simp, by simp⟩
  | len + 1, h => by
    obtain ⟨rows, cells, h1, h2, h3, h4, h5⟩ := rows_read hz hrow len fun i hi => h i (by omega)
    obtain ⟨ccs, r, g1, g2, g3⟩ := h len (by omega)
    obtain ⟨_, g4, g5⟩ := World.cells?_some g1
    refine ⟨rows ++ [r], cells ++ ccs, by simp [h1], ?_, ?_, ?_, ?_⟩
    · intro r' hr'
      rcases List.mem_append.1 hr' with h' | h'
      · exact h2 _ h'
      · simp at h'; subst h'; exact g2
    · rw [List.flatten_append]
      exact h3.app (by simpa using g3)
    · simp [h4, g4, Nat.succ_mul]
    · intro q u hq
      by_cases hlt : q < cells.length
      · rw [List.getElem?_append_left hlt] at hq; exact h5 q u hq
      · rw [List.getElem?_append_right (by omega)] at hq
        have hq' := (List.getElem?_eq_some_iff.1 hq).1
        have := g5 (q - cells.length) (by omega)
        rw [hq] at this
        rw [← this]
        have e : (a.add (len * sz)).add (q - cells.length) = a.add q := by
          obtain ⟨d, hd⟩ : ∃ d, q = len * sz + d := ⟨q - len * sz, by omega⟩
          rw [hd, h4, Nat.add_sub_cancel_left]
          exact Addr.add_add _ _ _
        rw [e]

theorem fields_read {m : Nat} {total : Nat} (ih : ∀ (t : TypeId) (shs : List Sh), shOf P m t = some shs → ∀ fuel cs x, DataW.trod enc P w base spare held fuel t cs = some x → ∃ cs', Hs shs cs' ∧ RO (· < w.heap.size) w cs' cs) {n : Nat} {cs : List Value} (hl : cs.length = total) :
    ∀ (l : List Field) (pos : Nat) (shs : List Sh), (∀ f ∈ l, ∃ x, DataW.trod enc P w base spare held n f.type ((cs.drop f.offset).take (P.cellsOf f.type)) = some x) → shFs P (shOf P m) total l pos = some shs →
      ∃ cs', Hs shs cs' ∧ RO (· < w.heap.size) w cs' (cs.drop pos)
  | [], pos, shs, _, h => by
    simp only [shFs] at h
    split at h
    · rename_i e
      cases h
      rw [List.drop_eq_nil_of_le (by omega)]
      exact ⟨[], .nil, .nil⟩
    · cases h
  | f :: r, pos, shs, hx, h => by
    simp only [shFs] at h
    split at h
    · rename_i a b ha hb
      split at h
      · rename_i hh
        cases h
        obtain ⟨x, hx1⟩ := hx f (by simp)
        obtain ⟨c1, h1, h2⟩ := ih _ _ ha _ _ _ hx1
        obtain ⟨c2, h3, h4⟩ := fields_read ih hl r _ _ (fun f' hf' => hx f' (by simp [hf'])) hb
        rw [hh.1] at h2
        refine ⟨c1 ++ c2, h1.app h3, ?_⟩
        have := h2.app h4
        rwa [← List.drop_drop, List.take_append_drop] at this
      · cases h
    · cases h

/-- What a datum's cells are, as trees. -/
theorem trod_read : ∀ (m : Nat) (t : TypeId) (shs : List Sh), shOf P m t = some shs → ∀ fuel cs x, DataW.trod enc P w base spare held fuel t cs = some x → ∃ cs', Hs shs cs' ∧ RO (· < w.heap.size) w cs' cs
  | 0, _, _, h, _, _, _, _ => by cases h
  | m + 1, t, shs, h, fuel, cs, x, hx => by
    simp only [shOf] at h
    split at h
    · rename_i k hu
      cases h
      obtain ⟨n, rfl, _, hw⟩ := DataW.trod_int hu hx
      exact ⟨_, .int k n (by simpa [Lit.wf] using hw) .nil, .sc (.int k n) .nil⟩
    · rename_i hu
      cases h
      obtain ⟨b, rfl, _⟩ := DataW.trod_bool hu hx
      exact ⟨_, .bool b .nil, .sc (.bool b) .nil⟩
    · rename_i hu
      cases h
      obtain ⟨s, rfl, _, hs⟩ := DataW.trod_string hu hx
      exact ⟨_, .str s.data.toList (by unfold maxLen at hs; simp; omega) .nil, .sc (.str _) .nil⟩
    · rename_i e hu
      split at h
      · rename_i row he
        split at h
        · rename_i hr
          cases h
          rcases DataW.trod_slice hu hx with ⟨rfl, _⟩ | ⟨a, len, cap, elems, rest, n, rfl, rfl, _, hb, hl, hm, hlen, hel, _, _⟩
          · exact ⟨_, .sl row.length row [] (by simp) (by simp) .nil, .tr0 _ _ _ .nil⟩
          · have hr' : ∀ i, i < len → ∃ ccs r, w.cells? base (a.add (i * row.length)) row.length = some ccs ∧ Hs row r ∧ RO (· < w.heap.size) w r ccs := by
              intro i hi
              have := hel i hi
              rw [List.getElem?_eq_getElem (by omega), Option.bind_eq_some_iff] at this
              obtain ⟨ccs, h1, h2⟩ := this
              obtain ⟨r, h3, h4⟩ := trod_read m _ _ he _ _ _ h2
              exact ⟨ccs, r, by rw [hr.1]; exact h1, h3, h4⟩
            obtain ⟨rows, cells, h1, h2, h3, h4, h5⟩ := rows_read hr.2 rfl len hr'
            unfold maxLen at hm
            refine ⟨[.tr row.length rows], .sl row.length row rows h2 (by omega) .nil, ?_⟩
            subst h1
            by_cases h0 : rows = []
            · subst h0; exact .tr0 _ _ _ .nil
            · have hp : 0 < rows.length := List.length_pos_iff.2 h0
              have hlt : 0 < cells.length := by rw [h4]; exact Nat.mul_pos hp hr.2
              have hc0 := h5 0 _ (List.getElem?_eq_getElem hlt)
              obtain ⟨b, off, sub⟩ := a
              have hsub : sub = none := by
                cases sub with
                | none => rfl
                | some x => simp only [Addr.add, World.cell?, Option.isSome_some, if_true] at hc0; split at hc0 <;> cases hc0
              subst hsub
              have hb' : b < w.heap.size := World.block_lt_of_cell? w _ hc0
              refine .tr rows b off cap row.length cells hb' (fun r hr => (h2 r hr).length) (fun q u hq => ?_) hl h3 .nil
              have := h5 q u hq
              rwa [Addr.add_lit] at this
        · cases h
      · cases h
    · rename_i fs hu
      obtain ⟨xs, n, rfl, _, hl, hxs, hf⟩ := DataW.trod_struct hu hx
      have := fields_read (fun t shs h => trod_read m t shs h) hl fs.toList 0 shs (n := n) (fun f hf' => ?_) h
      · simpa using this
      · obtain ⟨i, hi, rfl⟩ := List.getElem_of_mem hf'
        have hi' : i < fs.size := by simpa using hi
        have := hf i fs[i] (Array.getElem?_eq_getElem hi')
        rw [List.getElem?_eq_getElem (by omega)] at this
        exact ⟨_, by simpa using this⟩
    · cases h

def isStruct (P : Program) (t : TypeId) : Bool := match P.underlying t with
  | some (.struct _) => true
  | _ => false

/-- An argument of one cell. -/
theorem arg_one {m : Nat} {t : TypeId} {s : Sh} {v : Value} {d : DataW H} {ps : List MemPlace} {rc : Reach} {b0 : Nat} (hsh : shOf P m t = some [s]) (hv : Value.okWide P w rc b0 t v) (hns : isStruct P t = false)
    (h : DataW.Trod enc P w base spare held t v d ps) : ∃ c, Hs [s] [c] ∧ VRs (fun _ b => b < w.heap.size) w [] gh0 [lift none c] [v] := by
  obtain ⟨fuel, hf⟩ := h
  obtain ⟨cs', h1, h2⟩ := trod_read m t _ hsh _ _ _ hf
  have hc : v.cells.toList = [v] := by
    cases m with
    | zero => cases hsh
    | succ m =>
      simp only [shOf] at hsh
      split at hsh
      · rename_i hu; obtain ⟨n, rfl⟩ := okWide_int hu hv; rfl
      · rename_i hu; obtain ⟨n, rfl⟩ := okWide_bool hu hv; rfl
      · rename_i hu; obtain ⟨n, rfl⟩ := okWide_string hu hv; rfl
      · rename_i hu; obtain ⟨a, l, c, rfl⟩ := okWide_slice hu hv; rfl
      · rename_i hu; simp [isStruct, hu] at hns
      · cases hsh
  rw [hc] at h2
  have hl := h1.length
  match cs', hl with
  | [c], _ => exact ⟨c, h1, by simpa using RO.lift (ok := fun _ b => b < w.heap.size) (roots := []) (gh := gh0) none h2 (fun _ _ e => by cases e)⟩

/-- A struct. -/
theorem arg_agg {m : Nat} {t : TypeId} {shs : List Sh} {v : Value} {d : DataW H} {ps : List MemPlace} {rc : Reach} {b0 : Nat} (hsh : shOf P m t = some shs) (hv : Value.okWide P w rc b0 t v) (hu0 : isStruct P t = true)
    (h : DataW.Trod enc P w base spare held t v d ps) : ∃ cs, Hs shs cs ∧ VRs (fun _ b => b < w.heap.size) w [] gh0 [.agg (cs.map (lift none))] [v] := by
  obtain ⟨fuel, hf⟩ := h
  obtain ⟨cs', h1, h2⟩ := trod_read m t _ hsh _ _ _ hf
  obtain ⟨fs, hu⟩ : ∃ fs, P.underlying t = some (.struct fs) := by
    unfold isStruct at hu0
    split at hu0
    · rename_i fs hu; exact ⟨fs, hu⟩
    · cases hu0
  obtain ⟨cs, rfl, _⟩ := okWide_struct hu hv
  refine ⟨cs', h1, ?_⟩
  have h3 := RO.lift (ok := fun _ b => b < w.heap.size) (roots := []) (gh := gh0) none h2 (fun _ _ e => by cases e)
  have := VRs.agg _ _ h3 h2.one .nil
  simpa [Value.cells] using this
end

/-- Where a call begins in a world of the program's shape. -/
theorem Gl.shaped {P : Program} {W : World} (hlt : P.globals.size < P.low) (h : W.ShapedOpen P) : Gl P (fun low => ∃ W : World, W.ShapedOpen P ∧ low = fun b => if b < P.low then W.heap[b]? else none) W [] := by
  refine ⟨?_, ⟨W, h, rfl⟩, fun b hb => by cases hb⟩
  obtain ⟨o, o₀, h1, _, _⟩ := h.2 (P.low - 1) (by omega) (by show P.low - 1 < P.low; omega)
  have := (Array.getElem?_eq_some_iff.1 h1).1
  omega

/-- A call whose arguments and answers lead to no memory. -/
theorem PC.of {L : Low} {P : Program} {f : Nat} {fn : Func} {args : List VV} {res : VV} (hf : P.funcs[f]? = some fn) (hn : (fn.name == "runtime.NumGoroutine") = false) (hb : fn.body.isNone = false)
    (h : ∀ (w : World) (vs : List Value) (A : List Nat), Gl P L w A → VRs (fun _ b => b < w.heap.size ∧ b ∉ A) w [] gh0 args vs → Calls P f vs.toArray w fun e w' => ∃ v, e = .returned v ∧ RowKit.Below w.heap.size w w' ∧ ∀ ok, Res ok w' res v []) : PC L P f args res :=
  ⟨⟨fn, hf, hn, hb⟩, fun w vs A hG hA hl hv => (h w vs A hG hv).mono fun e w' ⟨v, he, hb', hr⟩ => ⟨v, [], he, hb', .nil, (fun _ h => by cases h), hr _⟩⟩

theorem VRs.toScs {ok : Option (Nat × Nat) → Nat → Prop} {w : World} {roots : List Root} {gh : Nat → Gh} : ∀ {cs : List VV} {vs : List Value}, VRs ok w roots gh cs vs → cs.all isSc = true → Scs cs vs
  | [], vs, h, _ => by cases h; exact .nil
  | c :: cs, [], h, _ => by have := h.length; simp at this
  | c :: cs, v :: vs, h, hs => by
    simp only [List.all_cons, Bool.and_eq_true] at hs
    have h1 := isSc_ok hs.1 h.hd
    have h2 : VRs ok w roots gh cs vs := by cases h <;> assumption
    exact .cons h1 (VRs.toScs h2 hs.2)

theorem Scs.res {ok : Nat → Prop} {w : World} {c : VV} {v : Value} (h : Sc c v) : Res ok w c v [] := by
  have : RVs ok w [c] [v] ([] ++ []) := .one (.sc h .nil) .nil
  cases h <;> exact this

theorem Scs.rvs {ok : Nat → Prop} {w : World} {cs : List VV} {vs : List Value} (h : Scs cs vs) : RVs ok w cs vs [] := by
  induction h with
  | nil => exact .nil
  | cons h _ ih => exact .one (F := []) (G := []) (.sc h .nil) ih

/-- A call of a function of scalars, under a contract of the library's. -/
theorem PC.ofSc {L : Low} {P : Program} {f : Nat} {fn : Func} {args : List VV} {c : VV} (hf : P.funcs[f]? = some fn) (hn : (fn.name == "runtime.NumGoroutine") = false) (hb : fn.body.isNone = false) (ha : args.all isSc = true)
    (h : ∀ (w : World) (vs : List Value), Gl P L w [] → Scs args vs → Calls P f vs.toArray w fun e w' => ∃ v, e = .returned v ∧ RowKit.Below w.heap.size w w' ∧ Sc c v) : PC L P f args c :=
  PC.of hf hn hb fun w vs A hG hv => (h w vs ⟨hG.1, hG.2.1, fun b hb => by cases hb⟩ (hv.toScs ha)).mono fun e w' ⟨v, he, hb', hs⟩ => ⟨v, he, hb', fun ok => Scs.res hs⟩

theorem PC.ofScT {L : Low} {P : Program} {f : Nat} {fn : Func} {args cs : List VV} (hf : P.funcs[f]? = some fn) (hn : (fn.name == "runtime.NumGoroutine") = false) (hb : fn.body.isNone = false) (ha : args.all isSc = true)
    (h : ∀ (w : World) (vs : List Value), Gl P L w [] → Scs args vs → Calls P f vs.toArray w fun e w' => ∃ us : List Value, e = .returned (.tuple us.toArray) ∧ RowKit.Below w.heap.size w w' ∧ Scs cs us) : PC L P f args (.tup cs) :=
  PC.of hf hn hb fun w vs A hG hv => (h w vs ⟨hG.1, hG.2.1, fun b hb => by cases hb⟩ (hv.toScs ha)).mono fun e w' ⟨us, he, hb', hs⟩ => ⟨_, he, hb', fun ok => ⟨us, rfl, hs.rvs⟩⟩

/-- Rows that each stand for something. -/
theorem rows_of {α : Type} {rows : List (List VV)} {f : α → List VV} {p : α → Prop} (h : ∀ r ∈ rows, ∃ x, r = f x ∧ p x) : ∃ l : List α, rows = l.map f ∧ ∀ x ∈ l, p x := by
  induction rows with
  | nil => exact ⟨[], rfl, by simp⟩
  | cons r rows ih =>
    obtain ⟨x, rfl, hx⟩ := h r (by simp)
    obtain ⟨l, rfl, hl⟩ := ih fun r hr => h r (by simp [hr])
    exact ⟨x :: l, rfl, by simpa using ⟨hx, hl⟩⟩
end Go.Proofs.YtjldkpggcjolcaaV
