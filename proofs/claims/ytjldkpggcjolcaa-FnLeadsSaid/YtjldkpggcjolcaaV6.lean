/- All pure operations in one function. Conditions: the table of types fits the program. -/
import Derived.Test.YtjldkpggcjolcaaV5
namespace Go.Proofs.YtjldkpggcjolcaaV
set_option linter.unusedVariables false
set_option linter.unusedSimpArgs false

def cellsV : VV → Option (List VV)
  | .agg cs => some cs
  | .undef => none
  | .tup _ => none
  | c => some [c]

def fillV (fs : List (Nat × Nat × Nat)) : List VV → List (Nat × VV) → Option (List VV)
  | cells, [] => some cells
  | cells, (j, c) :: r => match fs[j]?, cellsV c with
    | some (off, sz, _), some cs => if cs.length = sz ∧ off + sz ≤ cells.length then fillV fs (cells.take off ++ cs ++ cells.drop (off + sz)) r else none
    | _, _ => none

def vun (op : UnOp) : VV → Option VV
  | .int k n => match op with
    | .neg => some (.int k (k.wrap (0 - n)))
    | _ => none
  | .bool b => match op with
    | .not => some (.bool (!b))
    | _ => none
  | _ => none

/-- Bytes, out of a slice's rows. -/
def byteOf1 : List VV → Option UInt8
  | [.int .u8 n] => some (UInt8.ofNat n.toNat)
  | _ => none

def vconv (T : Tbl) (roots : List Root) (s d : Nat) (c : VV) : Option VV :=
  match T s, T d, c with
  | some i, some j, .int _ n => match j.k with
    | .int k => some (.int k (k.wrap n))
    | _ => none
  | some i, some j, .str l => match j.k with
    | .str => some (.str l)
    | _ => none
  | some i, some j, c => match i.k, j.k with
    | .slice e, .str => match T e with
      | some ie => match ie.k with
        | .int .u8 => (rowsOf roots c).bind fun rows => (rows.mapM byteOf1).map .str
        | _ => none
      | none => none
    | _, _ => none
  | _, _, _ => none

def vindex (T : Tbl) (t : Nat) (c i : VV) : Option VV :=
  match T t, c, i with
  | some it, .str s, .int _ i => match it.k with
    | .str => if 0 ≤ i then (s[i.toNat]?).map fun b => .int .u8 b.toNat else none
    | _ => none
  | _, _, _ => none

/-- The pointer's row is there. -/
def ptrOk (roots : List Root) : VV → Bool
  | .ptr k g _ _ => match roots[k]? with
    | some (.box _) => true
    | some (.arr g' _ _ _) => g == g'
    | _ => false
  | .rp tag _ _ => tagOk roots tag
  | _ => false

def vfieldAddr (fs : List (Nat × Nat × Nat)) (c : VV) (f : Nat) : Option VV :=
  match fs[f]?, c with
  | some (o, _, _), .ptr k g i off => some (.ptr k g i (off + o))
  | some (o, _, _), .rp tag row off => some (.rp tag row (off + o))
  | _, _ => none

def vfield (T : Tbl) (fs : List (Nat × Nat × Nat)) (c : VV) (f : Nat) : Option VV :=
  match fs[f]?, c with
  | some (o, sz, ft), .agg cs => match T ft with
    | some i => if i.k.isAgg then (if o + i.size ≤ cs.length then some (.agg ((cs.drop o).take i.size)) else none) else cs[o]?
    | none => none
  | _, _ => none

/-- min, max of two. -/
def vmm (b : Builtin) : VV → VV → Option VV
  | .int k x, .int k' y => if k = k' then match b with
    | .min => some (.int k (if y < x then y else x))
    | .max => some (.int k (if x < y then y else x))
    | _ => none
    else none
  | _, _ => none

def vmms (b : Builtin) : VV → List VV → Option VV
  | x, [] => some x
  | x, y :: r => match vmm b x y with
    | some z => vmms b z r
    | none => none

def vpure (T : Tbl) (env : List (Nat × VV)) (roots : List Root) (o : Oper) : Option VV :=
  match o.op with
  | .move x | .assign x => some (ev env x)
  | .pick c a b => match ev env c with
    | .bool t => some (if t then ev env a else ev env b)
    | _ => none
  | .load t a => match T t with
    | some i => vload i roots (ev env a)
    | none => none
  | .nilCheck x => match ev env x with
    | .fn f caps => some (.fn f caps)
    | c => if ptrOk roots c then some c else none
  | .binOp op t x y _ => vbin T op t (ev env x) (ev env y)
  | .unOp op _ x => vun op (ev env x)
  | .convert s d x => vconv T roots s d (ev env x)
  | .makeFunc fn first caps => match fn with
    | .func f => if first.size = 0 then some (.fn f (caps.toList.map (ev env))) else none
    | _ => none
  | .slice t x lo hi mx => match T t, mx with
    | some it, none => match it.k with
      | .str => if isStr (ev env x) then vslice roots 0 (ev env x) (lo.map (ev env)) (hi.map (ev env)) else none
      | .slice e => match T e with
        | some ie => if isStr (ev env x) then none else vslice roots ie.size (ev env x) (lo.map (ev env)) (hi.map (ev env))
        | none => none
      | _ => none
    | _, _ => none
  | .fieldAddr t x f => match T t with
    | some i => match i.k with
      | .struct fs => if ptrOk roots (ev env x) then vfieldAddr fs (ev env x) f else none
      | _ => none
    | none => none
  | .field t x f => match T t with
    | some i => match i.k with
      | .struct fs => vfield T fs (ev env x) f
      | _ => none
    | none => none
  | .indexAddr t x i => match T t with
    | some it => match it.k with
      | .slice e => match T e, ev env i with
        | some ie, .int _ n => vindexAddr roots ie.size (ev env x) n
        | _, _ => none
      | _ => none
    | none => none
  | .index t x i => vindex T t (ev env x) (ev env i)
  | .extract x i => match ev env x with
    | .tup vs => vs[i]?
    | _ => none
  | .build t parts => match T t with
    | some i => match i.k with
      | .struct fs => (fillV fs i.zero (parts.toList.map fun p => (p.1, ev env p.2))).map .agg
      | _ => none
    | none => none
  | .call c => match c.callee with
    | .builtin .len => match c.args.toList, c.argTypes.toList with
      | [x], [t] => match T t with
        | some it => match it.k with
          | .str => if isStr (ev env x) then vlen roots (ev env x) else none
          | .slice _ => if isStr (ev env x) then none else vlen roots (ev env x)
          | _ => none
        | none => none
      | _, _ => none
    | .builtin .min => match c.args.toList with
      | x :: r => vmms .min (ev env x) (r.map (ev env))
      | [] => none
    | .builtin .max => match c.args.toList with
      | x :: r => vmms .max (ev env x) (r.map (ev env))
      | [] => none
    | _ => none
  | _ => none

/-- What a pure operation asks besides. -/
def vcond (env : List (Nat × VV)) (o : Oper) : Prop :=
  match o.op with
  | .binOp op _ x y _ => vbinC op (ev env x) (ev env y)
  | _ => True

section
variable {P : Program} {T : Tbl} {ok : Option (Nat × Nat) → Nat → Prop} {C : Cx} {roots : List Root} {gh : Nat → Gh} {Fk : Nat → List Nat} {X : List Nat} {w : World}

theorem take_set_succ {α : Type} (l : List α) (n : Nat) (v : α) (h : n < l.length) : (l.set n v).take (n + 1) = l.take n ++ [v] := by
  rw [List.set_eq_take_append_cons_drop, if_pos h, List.take_append, List.take_of_length_le (by simp; omega)]
  simp [Nat.min_eq_left (Nat.le_of_lt h)]

theorem fill_list (off : Nat) : ∀ (vs : List Value) (i : Nat) (cells : Array Value), off + i + vs.length ≤ cells.size →
    ((vs.zipIdx i).foldl (fun cs (p : Value × Nat) => cs.setIfInBounds (off + p.2) p.1) cells).toList = cells.toList.take (off + i) ++ vs ++ cells.toList.drop (off + i + vs.length)
  | [], i, cells, h => by simp
  | v :: vs, i, cells, h => by
    simp only [List.length_cons] at h
    simp only [List.zipIdx_cons, List.foldl_cons]
    rw [fill_list off vs (i + 1) _ (by simp; omega)]
    have hl : off + i < cells.toList.length := by simp; omega
    simp only [Array.toList_setIfInBounds, List.length_cons]
    rw [show off + (i + 1) = off + i + 1 by omega, take_set_succ _ _ _ hl, List.drop_set_of_lt (by omega), show off + i + 1 + vs.length = off + i + (vs.length + 1) by omega]
    simp

theorem VRs.undefs {n : Nat} {vs : List Value} (h : vs.length = n) : VRs ok w roots gh (List.replicate n .undef) vs := by
  induction vs generalizing n with
  | nil => simp at h; subst h; exact .nil
  | cons v vs ih => cases n with
    | zero => simp at h
    | succ n => exact .undef v (ih (by simpa using h))

theorem cells_one {v : Value} (h : v.oneCell' = true) : v.cells = [v].toArray := by
  cases v <;> first | rfl | (cases h; done)

theorem cellsV_ok {c : VV} {v : Value} {cs : List VV} (h : cellsV c = some cs) (hv : VRs ok w roots gh [c] [v]) : ∃ us, v.cells = us.toArray ∧ VRs ok w roots gh cs us ∧ ∀ u ∈ us, u.oneCell' = true := by
  cases hv with
  | undef v t => simp [cellsV] at h
  | sc h' t =>
    have h1 : v.cells = [v].toArray := by cases h' <;> rfl
    have h2 : cs = [c] := by cases h' <;> (simp [cellsV] at h; exact h.symm)
    subst h2
    exact ⟨[v], h1, .sc h' .nil, by simp [h'.one]⟩
  | sl tag sz rows v ho hk hh t =>
    simp [cellsV] at h; subst h
    exact ⟨[v], cells_one ho, .sl tag sz rows v ho hk hh .nil, by simpa using ho⟩
  | rs k g lo n v ho hk hh t =>
    simp [cellsV] at h; subst h
    exact ⟨[v], cells_one ho, .rs k g lo n v ho hk hh .nil, by simpa using ho⟩
  | ptr k g i off v ho hk hb ha t =>
    simp [cellsV] at h; subst h
    exact ⟨[v], cells_one ho, .ptr k g i off v ho hk hb ha .nil, by simpa using ho⟩
  | rp tag row off v ho hk hh t =>
    simp [cellsV] at h; subst h
    exact ⟨[v], cells_one ho, .rp tag row off v ho hk hh .nil, by simpa using ho⟩
  | agg ds us h' h1 t => simp [cellsV] at h; subst h; exact ⟨us, rfl, h', h1⟩
  | tup ds us h' t => simp [cellsV] at h
  | fn f ds us h' t => simp [cellsV] at h; subst h; exact ⟨[_], rfl, .fn f ds us h' .nil, by simp [Value.oneCell']⟩
end
end Go.Proofs.YtjldkpggcjolcaaV
