/- The operations that make memory or write it, and calls. Conditions: the table of types fits the program. -/
import Derived.Test.YtjldkpggcjolcaaV15
namespace Go.Proofs.YtjldkpggcjolcaaV
set_option linter.unusedVariables false
set_option linter.unusedSimpArgs false

/-- A call, over the abstract heap. -/
def VCall (L : Low) (P : Program) (C : Cx) (f : Nat) (args : List VV) (roots : List Root) (K : VV → List Root → Prop) : Prop :=
  (∃ fn, P.funcs[f]? = some fn ∧ (fn.name == "runtime.NumGoroutine") = false ∧ fn.body.isNone = false) ∧
  (Gl P L C.w0 C.F0 → ∀ gh Fk w vs, HX C roots gh Fk [] w → VRs (okF w roots Fk []) w roots gh args vs → Calls P f vs.toArray w fun e w' =>
    ∃ v c roots' gh' Fk', e = .returned v ∧ K c roots' ∧ HX C roots' gh' Fk' [] w' ∧ Ext roots gh Fk [] w roots' gh' Fk' [] w' ∧ VRs (okF w' roots' Fk' []) w' roots' gh' [c] [v])

def chunks {α : Type} (sz : Nat) : Nat → List α → List (List α)
  | 0, _ => []
  | n + 1, l => l.take sz :: chunks sz n (l.drop sz)

/-- The parts of a literal, all of them in order: their cells. -/
def litCells (env : List (Nat × VV)) (sz : Nat) : Nat → List (Nat × Operand) → Option (List VV)
  | _, [] => some []
  | i, (j, x) :: r => match cellsV (ev env x), litCells env sz (i + 1) r with
    | some cs, some ds => if i = j ∧ cs.length = sz then some (cs ++ ds) else none
    | _, _ => none

def byteRows (l : List UInt8) : List (List VV) := l.map fun b => [.int .u8 b.toNat]

/-- A type whose cells lead nowhere. -/
def TI.plain (i : TI) : Bool := i.sls.all Option.isNone

/-- What is appended: its rows, the roots without what is handed on, whether it is owned; and what is asked. -/
def newsOf (ie : TI) (roots : List Root) (c : VV) : Option (List (List VV) × List Root × Bool × Prop) :=
  match c with
  | .str l => some (byteRows l, roots, true, ie.size = 1)
  | .sl tag sz rows => if tagOk roots tag then (if ie.plain then some (rows, roots, true, sz = ie.size ∧ ∀ r ∈ rows, r.all isSc = true) else
      match tag with
      | none => some (rows, roots, false, sz = ie.size)
      | some _ => none) else none
  | .nils => some ([], roots, true, True)
  | .rs k g lo n => match roots[k]? with
    | some (.arr g' own sz rows) => if g = g' then
        (if lo = 0 ∧ n = rows.length ∧ ie.plain = false then some (rows, roots.set k .dead, own, sz = ie.size)
         else if ie.plain then (if lo + n ≤ rows.length then some ((rows.drop lo).take n, roots, true, sz = ie.size ∧ ∀ r ∈ (rows.drop lo).take n, r.all isSc = true) else none)
         else none)
      else none
    | _ => none
  | _ => none

def vappend (ie : TI) (roots : List Root) (s x : VV) (K : VV → List Root → Prop) : Prop :=
  match newsOf ie roots x with
  | some (rows2, roots1, own2, side) => side ∧ ie.bytes ≤ 512 ∧ match s with
    | .nils => 0 < rows2.length ∧ rows2.length ≤ 274877906944 ∧ K (.rs roots1.length 0 0 rows2.length) (roots1 ++ [.arr 0 own2 ie.size rows2])
    | .rs k g 0 n => match roots1[k]? with
      | some (.arr g' own sz rows) => g = g' ∧ n = rows.length ∧ sz = ie.size ∧ rows.length + rows2.length ≤ 274877906944 ∧
          K (.rs k (g + 1) 0 (rows.length + rows2.length)) (roots1.set k (.arr (g + 1) (own && own2) sz (rows ++ rows2)))
      | _ => False
    | _ => False
  | none => False

def vstore (i : TI) (roots : List Root) (p c : VV) (K : VV → List Root → Prop) : Prop :=
  match p, cellsV c with
  | .ptr k g j off, some cs => match roots[k]? with
    | some (.box cells) => cs.length = i.size ∧ off + i.size ≤ cells.length ∧ K .undef (roots.set k (.box (cells.take off ++ cs ++ cells.drop (off + i.size))))
    | some (.arr g' own sz rows) => match rows[j]? with
      | some row => g = g' ∧ cs.length = i.size ∧ off + i.size ≤ row.length ∧ cs.all isSc = true ∧ ((row.drop off).take i.size).all isSc = true ∧
          K .undef (roots.set k (.arr g own sz (rows.set j (row.take off ++ cs ++ row.drop (off + i.size)))))
      | none => False
    | _ => False
  | _, _ => False

def veff (L : Low) (P : Program) (T : Tbl) (C : Cx) (env : List (Nat × VV)) (roots : List Root) (o : Oper) (K : VV → List Root → Prop) : Prop :=
  match o.op with
  | .alloc t => match T t with
    | some i => K (.ptr roots.length 0 0 0) (roots ++ [.box i.zero])
    | none => False
  | .box t x => match cellsV (ev env x) with
    | some cs => K (.ptr roots.length 0 0 0) (roots ++ [.box cs])
    | none => False
  | .buildSlice t n parts => match T t with
    | some it => match it.k with
      | .slice e => match T e with
        | some ie => match litCells env ie.size 0 parts.toList with
          | some cells => parts.size = n ∧ n ≤ 16777216 ∧ n * ie.size ≤ 16777216 ∧ match vseal roots cells (List.replicate n ie.sls).flatten with
            | some (ts, roots', own) => K (.rs roots'.length 0 0 n) (roots' ++ [.arr 0 own ie.size (chunks ie.size n ts)])
            | none => False
          | none => False
        | none => False
      | _ => False
    | none => False
  | .store t p x => match T t with
    | some i => vstore i roots (ev env p) (ev env x) K
    | none => False
  | .convert s d x => match T s, T d, ev env x with
    | some i, some j, .str l => match i.k, j.k with
      | .str, .slice e => match T e with
        | some ie => match ie.k with
          | .int .u8 => l.length ≤ 140737488355328 ∧ K (.rs roots.length 0 0 l.length) (roots ++ [.arr 0 true 1 (byteRows l)])
          | _ => False
        | none => False
      | _, _ => False
    | _, _, _ => False
  | .makeSlice t l c => match T t, ev env l, ev env c with
    | some it, .int .i64 n, .int .i64 m => match it.k with
      | .slice e => match T e with
        | some ie => 0 ≤ n ∧ m = n ∧ n ≤ 274877906944 ∧ ie.bytes ≤ 512 ∧ K (.rs roots.length 0 0 n.toNat) (roots ++ [.arr 0 true ie.size (List.replicate n.toNat ie.zt)])
        | none => False
      | _ => False
    | _, _, _ => False
  | .call c => match c.callee with
    | .builtin .append => match c.args.toList, c.argTypes.toList with
      | [s, x], [t, u] => match T t, T u with
        | some it, some iu => match it.k with
          | .slice e => match T e, iu.k with
            | some ie, .slice _ => if isStr (ev env x) then False else vappend ie roots (ev env s) (ev env x) K
            | some ie, .str => match ie.k with
              | .int .u8 => if isStr (ev env x) then vappend ie roots (ev env s) (ev env x) K else False
              | _ => False
            | _, _ => False
          | _ => False
        | _, _ => False
      | _, _ => False
    | .value fx => match ev env fx with
      | .fn f caps => VCall L P C f (c.args.toList.map (ev env) ++ caps) roots K
      | _ => False
    | _ => False
  | _ => False

section
variable {P : Program} {T : Tbl} {C : Cx} {roots roots' : List Root} {gh gh' : Nat → Gh} {Fk Fk' : Nat → List Nat} {X X' : List Nat} {w w' : World} {env : List (Nat × VV)} {a : Act}

/-- What an operation of this kind comes to. -/
def EffOk (P : Program) (C : Cx) (roots : List Root) (gh : Nat → Gh) (Fk : Nat → List Nat) (w : World) (r : Result Next) (K : VV → List Root → Prop) : Prop :=
  (∃ w' c u roots' gh' Fk', (r = .ok (.value u) w' ∨ (r = .ok .skip w' ∧ u = undef)) ∧ K c roots' ∧ HX C roots' gh' Fk' [] w' ∧ Ext roots gh Fk [] w roots' gh' Fk' [] w' ∧ VRs (okF w' roots' Fk' []) w' roots' gh' [c] [u]) ∨
  (∃ f vs, r = .ok (.enter f vs) w ∧ Calls P f vs w fun e w' =>
    ∃ v c roots' gh' Fk', e = .returned v ∧ K c roots' ∧ HX C roots' gh' Fk' [] w' ∧ Ext roots gh Fk [] w roots' gh' Fk' [] w' ∧ VRs (okF w' roots' Fk' []) w' roots' gh' [c] [v])

theorem free_new (n : Nat) : Free n (0, 0) := fun q _ hq => by simp at hq

theorem alloc_ok (hT : TOk P T) (hx : HX C roots gh Fk [] w) {t : Nat} {i : TI} (hi : T t = some i) {K : VV → List Root → Prop} (hK : K (.ptr roots.length 0 0 0) (roots ++ [.box i.zero])) (o : Oper) (ho : o.op = .alloc t) :
    EffOk P C roots gh Fk w ((execOp a.eval o).run P w) K := by
  obtain ⟨inf, z, hinf, his, hib, hz, hzz, _, _, hzs, _⟩ := (hT _ _ hi).info
  obtain ⟨gh', Fk', h1, h2, h3⟩ := hx.pushBox (cs := i.zero) (us := z.cells.toList) hzz.vrs hzz.one t (new_alloc w _)
  refine .inl ⟨_, _, _, _, gh', Fk', .inl ?_, hK, h1, h2, h3⟩
  simp [execOp, ho, Instr.alloc, zeroValue, typeInfo, hinf, hz, newVar, newRow]

theorem box_ok (hx : HX C roots gh Fk [] w) (he : EnvR (okF w roots Fk []) w roots gh env a.tmps) {t : Nat} {x : Operand} {cs : List VV} (hcs : cellsV (ev env x) = some cs) {K : VV → List Root → Prop}
    (hK : K (.ptr roots.length 0 0 0) (roots ++ [.box cs])) (o : Oper) (ho : o.op = .box t x) : EffOk P C roots gh Fk w ((execOp a.eval o).run P w) K := by
  obtain ⟨us, hus, hv, h1⟩ := cellsV_ok hcs (he.ev x)
  obtain ⟨gh', Fk', h2, h3, h4⟩ := hx.pushBox hv h1 t (new_alloc w _)
  refine .inl ⟨_, _, _, _, gh', Fk', .inl ?_, hK, h2, h3, h4⟩
  simp [execOp, ho, Instr.box, newVar, newRow, hus]

theorem chunks_flatten {α : Type} (sz : Nat) : ∀ (n : Nat) (l : List α), l.length = n * sz → (chunks sz n l).flatten = l ∧ (chunks sz n l).length = n ∧ ∀ r ∈ chunks sz n l, r.length = sz
  | 0, l, h => by
    have : l = [] := List.eq_nil_of_length_eq_zero (by simpa using h)
    subst this; simp [chunks]
  | n + 1, l, h => by
    rw [Nat.add_mul] at h
    obtain ⟨h1, h2, h3⟩ := chunks_flatten sz n (l.drop sz) (by simp; omega)
    refine ⟨by simp [chunks, h1], by simp [chunks, h2], fun r hr => ?_⟩
    simp only [chunks, List.mem_cons] at hr
    rcases hr with rfl | hr
    · simp; omega
    · exact h3 r hr

/-- A literal's parts, laid into the zeros. -/
theorem lit_ok (he : EnvR (okF w roots Fk []) w roots gh env a.tmps) (sz : Nat) : ∀ (parts : List (Nat × Operand)) (i : Nat) (cells : List VV) (us : Array Value), litCells env sz i parts = some cells → us.size = (i + parts.length) * sz →
    ∃ us' vs, Instr.fill (fun j => some (j * sz, sz)) us (parts.map fun p => (p.1, a.eval p.2)) = some us' ∧ us'.toList = us.toList.take (i * sz) ++ vs ∧ VRs (okF w roots Fk []) w roots gh cells vs ∧ (∀ u ∈ vs, u.oneCell' = true) ∧ cells.length = parts.length * sz
  | [], i, cells, us, h, hs => by
    simp [litCells] at h; subst h
    refine ⟨us, [], rfl, ?_, .nil, by simp, by simp⟩
    rw [List.take_of_length_le (by simp at hs ⊢; omega)]; simp
  | (j, x) :: parts, i, cells, us, h, hs => by
    simp only [litCells] at h
    split at h
    · rename_i cs ds hcs hds
      split at h
      · rename_i hc
        obtain ⟨rfl, hl⟩ := hc
        cases h
        obtain ⟨vs, hvc, hv, hone⟩ := cellsV_ok hcs (he.ev x)
        have hlv := hv.length
        have hle : i * sz + vs.length ≤ us.size := by
          rw [hs, List.length_cons, hlv, hl, show (i + (parts.length + 1)) * sz = i * sz + sz + parts.length * sz by simp [Nat.add_mul]; omega]; omega
        have hfl := fill_list (i * sz) vs 0 us (by omega)
        simp only [Nat.add_zero] at hfl
        obtain ⟨us', vs', h1, h2, h3, h4, h5⟩ := lit_ok he sz parts (i + 1) ds ((vs.zipIdx 0).foldl (fun cs (p : Value × Nat) => cs.setIfInBounds (i * sz + p.2) p.1) us) hds (by
          have : ((vs.zipIdx 0).foldl (fun cs (p : Value × Nat) => cs.setIfInBounds (i * sz + p.2) p.1) us).toList.length = us.size := by
            rw [hfl]; simp only [List.length_append, List.length_take, List.length_drop, Array.length_toList]; omega
          rw [Array.length_toList] at this
          rw [this, hs, List.length_cons]; congr 1; omega)
        refine ⟨us', vs ++ vs', ?_, ?_, hv.app h3, ?_, ?_⟩
        · simp only [List.map_cons, Instr.fill, hvc]
          rw [if_neg (by simp; omega)]
          have : vs.toArray.zipIdx = (vs.zipIdx 0).toArray := by simp
          rw [this, List.foldl_toArray]
          exact h1
        · rw [h2, hfl, show (i + 1) * sz = i * sz + vs.length by rw [Nat.add_mul, hlv, hl]; omega]
          rw [List.append_assoc, List.take_append, List.take_of_length_le (by simp; omega)]
          have : i * sz + vs.length - (List.take (i * sz) us.toList).length = vs.length := by simp; omega
          rw [this, List.take_append_of_le_length (Nat.le_refl _), List.take_of_length_le (Nat.le_refl _)]
          simp
        · intro u hu
          rcases List.mem_append.1 hu with hu | hu
          · exact hone u hu
          · exact h4 u hu
        · rw [List.length_append, h5, hl, List.length_cons, Nat.add_mul]; omega
      · cases h
    · cases h
end
end Go.Proofs.YtjldkpggcjolcaaV
