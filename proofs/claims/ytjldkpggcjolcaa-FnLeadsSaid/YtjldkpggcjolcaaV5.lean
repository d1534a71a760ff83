/- Numbers, strings, structs: the operators. Conditions: the table of types fits the program. -/
import Derived.Test.YtjldkpggcjolcaaV4
import Derived.Laws.StructEq
namespace Go.Proofs.YtjldkpggcjolcaaV
set_option linter.unusedVariables false
set_option linter.unusedSimpArgs false

/-- '==' of two scalars of one type. -/
def scEq (k : TK) : VV → VV → Option Bool
  | .int j a, .int j' b => match k with
    | .int _ => if j = j' then some (decide (a = b)) else none
    | _ => none
  | .str a, .str b => match k with
    | .str => some (decide (a = b))
    | _ => none
  | .bool a, .bool b => match k with
    | .bool => some (decide (a = b))
    | _ => none
  | _, _ => none

def fieldsEq (T : Tbl) (xs ys : List VV) : List (Nat × Nat × Nat) → Option Bool
  | [] => some true
  | (off, _, ft) :: r => match T ft, xs[off]?, ys[off]? with
    | some i, some x, some y => match scEq i.k x y, fieldsEq T xs ys r with
      | some b, some c => some (b && c)
      | _, _ => none
    | _, _, _ => none

def isNilEq : VV → VV → Option Bool
  | .nili, .nili => some true
  | .err, .nili => some false
  | .nili, .err => some false
  | .nilf, .nilf => some true
  | .fn _ _, .nilf => some false
  | .nilf, .fn _ _ => some false
  | _, _ => none

def vbin (T : Tbl) (op : BinOp) (t : Nat) (x y : VV) : Option VV :=
  match x, y with
  | .int k a, .int k' b =>
    match op with
    | .shl => if b < 0 then none else some (.int k (k.wrap (a * 2 ^ min b.toNat k.bits)))
    | .shr => if b < 0 then none else some (.int k (a.fdiv (2 ^ min b.toNat k.bits)))
    | _ => if k = k' then match op with
      | .add => some (.int k (k.wrap (a + b)))
      | .sub => some (.int k (k.wrap (a - b)))
      | .mul => some (.int k (k.wrap (a * b)))
      | .quo => if b = 0 then none else some (.int k (k.wrap (a.tdiv b)))
      | .rem => if b = 0 then none else some (.int k (a.tmod b))
      | .and => some (.int k (k.wrap (BitVec.ofInt k.bits a &&& BitVec.ofInt k.bits b).toNat))
      | .or => some (.int k (k.wrap (BitVec.ofInt k.bits a ||| BitVec.ofInt k.bits b).toNat))
      | .xor => some (.int k (k.wrap (BitVec.ofInt k.bits a ^^^ BitVec.ofInt k.bits b).toNat))
      | .andNot => some (.int k (k.wrap (BitVec.ofInt k.bits a &&& ~~~BitVec.ofInt k.bits b).toNat))
      | .eql => some (.bool (decide (a = b)))
      | .neq => some (.bool (!decide (a = b)))
      | .lss => some (.bool (decide (a < b)))
      | .leq => some (.bool (decide (a ≤ b)))
      | .gtr => some (.bool (decide (b < a)))
      | .geq => some (.bool (decide (b ≤ a)))
      | _ => none
      else none
  | .str a, .str b =>
    match op with
    | .add => some (.str (a ++ b))
    | .eql => some (.bool (decide (a = b)))
    | .neq => some (.bool (!decide (a = b)))
    | .lss => some (.bool (Op.bytesLess a b))
    | .leq => some (.bool (Op.bytesLess a b || decide (a = b)))
    | .gtr => some (.bool (!(Op.bytesLess a b || decide (a = b))))
    | .geq => some (.bool (!Op.bytesLess a b))
    | _ => none
  | .bool a, .bool b => match op, T t with
    | .eql, some i => (scEq i.k (.bool a) (.bool b)).map .bool
    | .neq, some i => (scEq i.k (.bool a) (.bool b)).map fun e => .bool (!e)
    | _, _ => none
  | .agg a, .agg b => match op, T t with
    | .eql, some ⟨.struct fs, _, _, _, _, _⟩ => (fieldsEq T a b fs).map .bool
    | .neq, some ⟨.struct fs, _, _, _, _, _⟩ => (fieldsEq T a b fs).map fun e => .bool (!e)
    | _, _ => none
  | _, _ => none

/-- What the operator asks besides. -/
def vbinC (op : BinOp) (x y : VV) : Prop :=
  match op, x, y with
  | .add, .str a, .str b => a.length + b.length ≤ 9223372036854775807
  | _, _, _ => True

section
variable {P : Program} {T : Tbl} {ok : Option (Nat × Nat) → Nat → Prop} {roots : List Root} {gh : Nat → Gh} {w : World}

theorem VRs.int {k : IntKind} {n : Int} {v : Value} (h : VRs ok w roots gh [.int k n] [v]) : v = .int k n := by
  cases h with | sc h _ => cases h; rfl
theorem VRs.bool {b : Bool} {v : Value} (h : VRs ok w roots gh [.bool b] [v]) : v = .bool b := by
  cases h with | sc h _ => cases h; rfl
theorem VRs.str {s : List UInt8} {v : Value} (h : VRs ok w roots gh [.str s] [v]) : v = .string ⟨s.toArray⟩ := by
  cases h with | sc h _ => cases h; rfl
theorem VRs.aggs {cs : List VV} {v : Value} (h : VRs ok w roots gh [.agg cs] [v]) : ∃ us, v = .agg us.toArray ∧ VRs ok w roots gh cs us := by
  cases h with
  | sc h _ => cases h
  | agg ds us h h1 t => exact ⟨us, rfl, h⟩

theorem beqD {α : Type} [BEq α] [LawfulBEq α] [DecidableEq α] (a b : α) : (a == b) = decide (a = b) := by
  rw [Bool.eq_iff_iff]; simp

theorem toList_mk (s : List UInt8) : (⟨s.toArray⟩ : ByteArray).toList = s := by rw [ByteArray.toList_eq]

theorem scEq_ok {t : Nat} {i : TI} (hT : TyOk P t i) {x y : VV} {b : Bool} {u v : Value} (h : scEq i.k x y = some b) (hx : VRs ok w roots gh [x] [u]) (hy : VRs ok w roots gh [y] [v]) (d : Nat) (w' : World) :
    (Op.equalIn (d + 1) t u v).run P w' = .ok b w' ∧ i.k.isAgg = false := by
  obtain ⟨dd, hd, hm⟩ := hT.desc
  unfold scEq at h
  split at h
  · split at h
    · rename_i hk
      rw [hk] at hm ⊢
      simp only at hm
      subst hm
      split at h
      · rename_i e; subst e
        cases h
        rw [hx.int, hy.int, run_equalIn_int (P := P) _ d t _ _ _ _ hd]
        exact ⟨rfl, rfl⟩
      · cases h
    · cases h
  · split at h
    · rename_i hk
      rw [hk] at hm ⊢
      simp only at hm
      subst hm
      cases h
      rw [hx.str, hy.str, run_equalIn_string (P := P) _ d t _ _ hd, toList_mk, toList_mk]
      exact ⟨by rw [beqD], rfl⟩
    · cases h
  · split at h
    · rename_i hk
      rw [hk] at hm ⊢
      simp only at hm
      subst hm
      cases h
      rw [hx.bool, hy.bool, run_equalIn_bool' (P := P) _ d t _ _ hd]
      exact ⟨rfl, rfl⟩
    · cases h
  · cases h

theorem run_part_one {t : Nat} {i : TI} (hT : TyOk P t i) (hk : i.k.isAgg = false) {us : List Value} {off : Nat} {u : Value} (hu : us[off]? = some u) (w' : World) :
    (part t us.toArray off).run P w' = .ok u w' := by
  simp [part, tk_agg hT, hk, hu]

theorem fieldsEq_ok (hT : TOk P T) {xs ys : List VV} {us vs : List Value} (hx : VRs ok w roots gh xs us) (hy : VRs ok w roots gh ys vs) (d : Nat) (w' : World) :
    ∀ (fields : List Field) (b : Bool), fieldsEq T xs ys (fields.map fun f => (f.offset, P.cellsOf f.type, f.type)) = some b → (∀ f ∈ fields, f.name ≠ "_") →
      (Op.eqFields (d + 1) us.toArray vs.toArray fields).run P w' = .ok b w'
  | [], b, h, _ => by simp [fieldsEq] at h; subst h; simp [Op.eqFields]
  | f :: fields, b, h, hn => by
    simp only [List.map_cons, fieldsEq] at h
    split at h
    · rename_i i x y hti hxi hyi
      split at h
      · rename_i b1 b2 h1 h2
        cases h
        obtain ⟨u, hu, hxu⟩ := hx.get _ _ hxi
        obtain ⟨v, hv, hyv⟩ := hy.get _ _ hyi
        obtain ⟨heq, hk⟩ := scEq_ok (hT _ _ hti) h1 hxu hyv d w'
        have hr := fieldsEq_ok hT hx hy d w' fields b2 h2 (fun g hg => hn g (by simp [hg]))
        have hn' : f.name ≠ "_" := hn f (by simp)
        rw [Op.eqFields]
        simp only [if_pos hn', Sem.run_bind, run_part_one (hT _ _ hti) hk hu, run_part_one (hT _ _ hti) hk hv, heq, Result.andThen_ok]
        cases b1
        · simp
        · simpa using hr
      · cases h
    · cases h

theorem vbin_ok (hT : TOk P T) {op : BinOp} {t : Nat} {x y c : VV} {u v : Value} {ox oy : Operand} (h : vbin T op t x y = some c) (hc : vbinC op x y) (hx : VRs ok w roots gh [x] [u]) (hy : VRs ok w roots gh [y] [v]) :
    ∃ r, (∀ w', (do eqGuard op t ox oy u v; binOp op t u v : Sem Value).run P w' = .ok r w') ∧ VRs ok w roots gh [c] [r] := by
  unfold vbin at h
  split at h
  · rename_i k a k' b
    obtain rfl := hx.int
    obtain rfl := hy.int
    have hg : ∀ w', (eqGuard op t ox oy (.int k a) (.int k' b)).run P w' = .ok () w' := by intro w'; simp [eqGuard]
    cases op
    case shl =>
      simp only at h
      split at h
      · cases h
      · rename_i hb; cases h; exact ⟨_, fun w' => by simp [hg, binOp, Op.shift, hb], .sc (.int _ _) .nil⟩
    case shr =>
      simp only at h
      split at h
      · cases h
      · rename_i hb; cases h; exact ⟨_, fun w' => by simp [hg, binOp, Op.shift, hb], .sc (.int _ _) .nil⟩
    all_goals
      simp only at h
      split at h
      · rename_i e
        subst e
        first
          | (cases h; refine ⟨.int k _, fun w' => ?_, .sc (.int k _) .nil⟩; (simp [hg, binOp, Op.intArith]; done))
          | (cases h; refine ⟨.int k _, fun w' => ?_, .sc (.int k _) .nil⟩; (simp [hg, binOp, Op.intBits]; done))
          | (cases h; refine ⟨.bool _, fun w' => ?_, .sc (.bool _) .nil⟩; (simp [hg, binOp, Op.intCmp, beqD, bne]; done))
          | (split at h
             · cases h
             · rename_i hb; cases h; refine ⟨.int k _, fun w' => ?_, .sc (.int k _) .nil⟩; (simp [hg, binOp, Op.intDiv, hb]; done))
      · cases h
  · rename_i a b
    obtain rfl := hx.str
    obtain rfl := hy.str
    have hg : ∀ w', (eqGuard op t ox oy (.string ⟨a.toArray⟩) (.string ⟨b.toArray⟩)).run P w' = .ok () w' := by intro w'; simp [eqGuard]
    cases op
    case add =>
      cases h
      simp only [vbinC] at hc
      refine ⟨.string ⟨(a ++ b).toArray⟩, fun w' => ?_, .sc (.str _) .nil⟩
      have hs : ¬ (9223372036854775807 < (a.length : Int) + (b.length : Int)) := by omega
      have hap : (⟨a.toArray⟩ : ByteArray) ++ ⟨b.toArray⟩ = ⟨(a ++ b).toArray⟩ := by
        apply ByteArray.ext; simp
      have hsz : ∀ l : List UInt8, (⟨l.toArray⟩ : ByteArray).size = l.length := fun l => by simp [ByteArray.size]
      simp only [hg, Sem.run_bind, Result.andThen_ok, binOp, Op.stringOp, hsz, Int.natCast_add, IntKind.max, IntKind.signed, IntKind.bits]
      rw [if_neg (by simp; omega), hap]
      rfl
    all_goals
      simp only [] at h
      first
        | (cases h; done)
        | (cases h; refine ⟨.bool _, fun w' => ?_, .sc (.bool _) .nil⟩; (simp [hg, binOp, Op.stringOp, toList_mk, beqD]; done))
  · rename_i a b
    obtain rfl := hx.bool
    obtain rfl := hy.bool
    have hg : ∀ w', (eqGuard op t ox oy (.bool a) (.bool b)).run P w' = .ok () w' := by intro w'; simp [eqGuard]
    split at h
    · rename_i i hti
      simp only [Option.map_eq_some_iff] at h
      obtain ⟨e, he, rfl⟩ := h
      have := scEq_ok (hT _ _ hti) he hx hy 9999
      refine ⟨.bool _, fun w' => ?_, .sc (.bool _) .nil⟩
      simp [hg, binOp, Op.equal, Op.maxDepth, (this w').1]
    · rename_i i hti
      simp only [Option.map_eq_some_iff] at h
      obtain ⟨e, he, rfl⟩ := h
      have := scEq_ok (hT _ _ hti) he hx hy 9999
      refine ⟨.bool _, fun w' => ?_, .sc (.bool _) .nil⟩
      simp [hg, binOp, Op.equal, Op.maxDepth, (this w').1]
    · cases h
  · rename_i a b
    obtain ⟨us, rfl, hus⟩ := hx.aggs
    obtain ⟨vs, rfl, hvs⟩ := hy.aggs
    have key : ∀ fs n m z zt sl e, T t = some ⟨.struct fs, n, m, z, zt, sl⟩ → fieldsEq T a b fs = some e → ∀ w', (eqGuard op t ox oy (.agg us.toArray) (.agg vs.toArray)).run P w' = .ok () w' ∧ (Op.equalIn 10000 t (.agg us.toArray) (.agg vs.toArray)).run P w' = .ok e w' := by
      intro fs n m z zt sl e hti he w'
      obtain ⟨dd, hd, hm⟩ := (hT _ _ hti).desc
      simp only at hm
      obtain ⟨fields, rfl, hfit, hf, hst, hgd⟩ := hm
      have hfo : P.fieldsOf t = fields := by simp [Program.fieldsOf, hd]
      refine ⟨run_eqGuard_agg (P := P) _ op t ox oy _ _ hgd, ?_⟩
      rw [run_equalIn_struct (P := P) w' 9999 t _ _ (by rw [hfo]; exact hd) hst, hfo]
      refine fieldsEq_ok hT hus hvs 9998 w' fields.toList e ?_ (fun f hf' => (hf f hf').2.1)
      rw [show fields.toList.map (fun f => (f.offset, P.cellsOf f.type, f.type)) = fs from hfit]
      exact he
    split at h
    · rename_i fs n m z zt sl hti
      simp only [Option.map_eq_some_iff] at h
      obtain ⟨e, he, rfl⟩ := h
      refine ⟨.bool _, fun w' => ?_, .sc (.bool _) .nil⟩
      simp [(key _ _ _ _ _ _ _ hti he w').1, run_eql_struct, (key _ _ _ _ _ _ _ hti he w').2]
    · rename_i fs n m z zt sl hti
      simp only [Option.map_eq_some_iff] at h
      obtain ⟨e, he, rfl⟩ := h
      refine ⟨.bool _, fun w' => ?_, .sc (.bool _) .nil⟩
      simp [(key _ _ _ _ _ _ _ hti he w').1, run_neq_struct, (key _ _ _ _ _ _ _ hti he w').2]
    · cases h
  · cases h
end
end Go.Proofs.YtjldkpggcjolcaaV
