/- The walk, with what is still to be done as a list. Conditions: the table of types fits the program. -/
import Derived.Test.YtjldkpggcjolcaaV30
namespace Go.Proofs.YtjldkpggcjolcaaV
set_option linter.unusedVariables false
set_option linter.unusedSimpArgs false

/-- What an operation comes to: nothing, a value and a heap under a condition, or a call. -/
inductive Eff where
  | no
  | ok (side : Prop) (c : VV) (roots : List Root)
  | call (f : Nat) (args : List VV)

def appE (ie : TI) (roots : List Root) (s x : VV) : Eff :=
  match newsOf ie roots x with
  | some (rows2, roots1, own2, side) => match s with
    | .nils => .ok (side ∧ ie.bytes ≤ 512 ∧ 0 < rows2.length ∧ rows2.length ≤ 274877906944) (.rs roots1.length 0 0 rows2.length) (roots1 ++ [.arr 0 own2 ie.size rows2])
    | .rs k g 0 n => match roots1[k]? with
      | some (.arr g' own sz rows) => .ok (side ∧ ie.bytes ≤ 512 ∧ g = g' ∧ n = rows.length ∧ sz = ie.size ∧ rows.length + rows2.length ≤ 274877906944) (.rs k (g + 1) 0 (rows.length + rows2.length)) (roots1.set k (.arr (g + 1) (own && own2) sz (rows ++ rows2)))
      | _ => .no
    | _ => .no
  | none => .no

def storeE (i : TI) (roots : List Root) (p c : VV) : Eff :=
  match p, cellsV c with
  | .ptr k g j off, some cs => match roots[k]? with
    | some (.box cells) => .ok (cs.length = i.size ∧ off + i.size ≤ cells.length) .undef (roots.set k (.box (cells.take off ++ cs ++ cells.drop (off + i.size))))
    | some (.arr g' own sz rows) => match rows[j]? with
      | some row => .ok (g = g' ∧ cs.length = i.size ∧ off + i.size ≤ row.length ∧ cs.all isSc = true ∧ ((row.drop off).take i.size).all isSc = true) .undef
          (roots.set k (.arr g own sz (rows.set j (row.take off ++ cs ++ row.drop (off + i.size)))))
      | none => .no
    | _ => .no
  | _, _ => .no

def effE (T : Tbl) (env : List (Nat × VV)) (roots : List Root) (o : Oper) : Eff :=
  match o.op with
  | .alloc t => match T t with
    | some i => .ok True (.ptr roots.length 0 0 0) (roots ++ [.box i.zero])
    | none => .no
  | .box t x => match cellsV (ev env x) with
    | some cs => .ok True (.ptr roots.length 0 0 0) (roots ++ [.box cs])
    | none => .no
  | .buildSlice t n parts => match T t with
    | some it => match it.k with
      | .slice e => match T e with
        | some ie => match litCells env ie.size 0 parts.toList with
          | some cells => match vseal roots cells (List.replicate n ie.sls).flatten with
            | some (ts, roots', own) => .ok (parts.size = n ∧ n ≤ 16777216 ∧ n * ie.size ≤ 16777216) (.rs roots'.length 0 0 n) (roots' ++ [.arr 0 own ie.size (chunks ie.size n ts)])
            | none => .no
          | none => .no
        | none => .no
      | _ => .no
    | none => .no
  | .store t p x => match T t with
    | some i => storeE i roots (ev env p) (ev env x)
    | none => .no
  | .convert s d x => match T s, T d, ev env x with
    | some i, some j, .str l => match i.k, j.k with
      | .str, .slice e => match T e with
        | some ie => match ie.k with
          | .int .u8 => .ok (l.length ≤ 140737488355328) (.rs roots.length 0 0 l.length) (roots ++ [.arr 0 true 1 (byteRows l)])
          | _ => .no
        | none => .no
      | _, _ => .no
    | _, _, _ => .no
  | .makeSlice t l c => match T t, ev env l, ev env c with
    | some it, .int .i64 n, .int .i64 m => match it.k with
      | .slice e => match T e with
        | some ie => .ok (0 ≤ n ∧ m = n ∧ n ≤ 274877906944 ∧ ie.bytes ≤ 512) (.rs roots.length 0 0 n.toNat) (roots ++ [.arr 0 true ie.size (List.replicate n.toNat ie.zt)])
        | none => .no
      | _ => .no
    | _, _, _ => .no
  | .call c => match c.callee with
    | .builtin .append => match c.args.toList, c.argTypes.toList with
      | [s, x], [t, u] => match T t, T u with
        | some it, some iu => match it.k with
          | .slice e => match T e, iu.k with
            | some ie, .slice _ => if isStr (ev env x) then .no else appE ie roots (ev env s) (ev env x)
            | some ie, .str => match ie.k with
              | .int .u8 => if isStr (ev env x) then appE ie roots (ev env s) (ev env x) else .no
              | _ => .no
            | _, _ => .no
          | _ => .no
        | _, _ => .no
      | _, _ => .no
    | .value fx => match ev env fx with
      | .fn f caps => .call f (c.args.toList.map (ev env) ++ caps)
      | _ => .no
    | _ => .no
  | _ => .no

def Eff.to (L : Low) (P : Program) (C : Cx) (roots : List Root) (K : VV → List Root → Prop) : Eff → Prop
  | .no => False
  | .ok s c r => s ∧ K c r
  | .call f args => VCall L P C f args roots K

theorem appE_ok {L : Low} {P : Program} {C : Cx} {ie : TI} {roots r0 : List Root} {s x : VV} {K : VV → List Root → Prop} (h : (appE ie roots s x).to L P C r0 K) : vappend ie roots s x K := by
  unfold appE at h
  unfold vappend
  repeat' split at h
  all_goals first | exact h.elim | skip
  all_goals simp only [Eff.to] at h
  · obtain ⟨⟨h1, h2, h3, h4⟩, hk⟩ := h
    rw [‹newsOf ie roots x = _›]
    exact ⟨h1, h2, h3, h4, hk⟩
  · rename_i hr
    obtain ⟨⟨h1, h2, rfl, h4, h5, h6⟩, hk⟩ := h
    rw [‹newsOf ie roots x = _›]
    simp only [hr]
    exact ⟨h1, h2, trivial, h4, h5, h6, hk⟩

theorem storeE_ok {L : Low} {P : Program} {C : Cx} {i : TI} {roots r0 : List Root} {p c : VV} {K : VV → List Root → Prop} (h : (storeE i roots p c).to L P C r0 K) : vstore i roots p c K := by
  unfold storeE at h
  unfold vstore
  repeat' split at h
  all_goals first | exact h.elim | skip
  all_goals simp only [Eff.to] at h
  · rename_i hr
    obtain ⟨⟨h1, h2⟩, hk⟩ := h
    rw [‹cellsV c = _›]
    simp only [hr]
    exact ⟨h1, h2, hk⟩
  · rename_i hr _ _ hj
    obtain ⟨⟨rfl, h2, h3, h4, h5⟩, hk⟩ := h
    rw [‹cellsV c = _›]
    simp only [hr, hj]
    exact ⟨trivial, h2, h3, h4, h5, hk⟩

theorem effE_ok {L : Low} {P : Program} {T : Tbl} {C : Cx} {env : List (Nat × VV)} {roots : List Root} {o : Oper} {K : VV → List Root → Prop} (h : (effE T env roots o).to L P C roots K) : veff L P T C env roots o K := by
  unfold effE at h
  unfold veff
  repeat' split at h
  all_goals first | exact h.elim | skip
  all_goals simp only [*, if_true, if_false, Bool.false_eq_true]
  all_goals first | exact storeE_ok h | exact appE_ok h | exact h | exact h.2 | exact ⟨h.1, h.2⟩ | exact ⟨h.1.1, h.1.2.1, h.1.2.2, h.2⟩ | exact ⟨h.1.1, h.1.2.1, h.1.2.2.1, h.1.2.2.2, h.2⟩
end Go.Proofs.YtjldkpggcjolcaaV
