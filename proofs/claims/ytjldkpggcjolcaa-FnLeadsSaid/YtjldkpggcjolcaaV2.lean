/- The pure operations of the abstract state. Conditions: the table of types fits the program. -/
import Derived.Test.YtjldkpggcjolcaaV1
namespace Go.Proofs.YtjldkpggcjolcaaV
set_option linter.unusedVariables false

/-- A type, as far as the operations ask. -/
inductive TK where
  | int (k : IntKind)
  | bool
  | str
  | slice (e : Nat)
  | struct (fs : List (Nat × Nat × Nat))
  | ptr (e : Nat)
  | func
  | other
  deriving Inhabited

structure TI where
  k : TK
  size : Nat
  bytes : Nat
  zero : List VV
  zt : List VV
  sls : List (Option Nat)
  deriving Inhabited

def TK.isAgg : TK → Bool
  | .struct _ => true
  | _ => false

/-- A struct type's fields: offset, size, type. -/
def Fits (P : Program) (fields : Array Field) (fs : List (Nat × Nat × Nat)) : Prop :=
  fields.toList.map (fun f => (f.offset, P.cellsOf f.type, f.type)) = fs

structure TyOk (P : Program) (t : Nat) (i : TI) : Prop where
  desc : ∃ d, P.underlying t = some d ∧ (match i.k with
    | .int k => d = .int k
    | .bool => d = .bool
    | .str => d = .string
    | .slice e => d = .slice e
    | .struct fs => ∃ fields, d = .struct fields ∧ Fits P fields fs ∧ (∀ f ∈ fields.toList, 0 < P.cellsOf f.type ∧ f.name ≠ "_" ∧ ∃ i, P.info? f.type = some i) ∧ P.stoodInHeld t = false ∧
        P.eqGuardType P.depth t = false
    | .ptr e => d = .pointer e
    | .func => ∃ a b c, d = .func a b c
    | .other => (match d with | .struct _ | .array _ _ => False | _ => True))
  info : ∃ inf z, P.info? t = some inf ∧ inf.size = i.size ∧ inf.bytes = i.bytes ∧ inf.zero = some z ∧ Scs i.zero z.cells.toList ∧ (i.k.isAgg = true → ∃ cs, z = .agg cs) ∧
    (i.k.isAgg = false → z.cells = #[z]) ∧ z.cells.size = i.size ∧ ∀ w, OWs w i.zt z.cells.toList []

abbrev Tbl := Nat → Option TI
def TOk (P : Program) (T : Tbl) : Prop := ∀ t i, T t = some i → TyOk P t i

def put : List (Nat × VV) → Nat → VV → List (Nat × VV)
  | [], t, c => [(t, c)]
  | (k, d) :: r, t, c => if k = t then (t, c) :: r else (k, d) :: put r t c

/-- A constant of the text. -/
def ofC1 : Value → VV
  | .int k n => .int k n
  | .bool b => .bool b
  | .string s => .str s.data.toList
  | .pointer none => .nilp
  | .slice none 0 0 => .nils
  | .nilFunc => .nilf
  | .nilIface => .nili
  | _ => .undef

def ofC : Value → VV
  | .agg cs => if cs.toList.all (·.oneCell') then .agg (cs.toList.map ofC1) else .undef
  | v => ofC1 v

def ev (env : List (Nat × VV)) : Operand → VV
  | .tmp t => look env t
  | .const v => ofC v
  | .func f => .fn f []
  | .global _ => .undef

theorem VRs.hd {ok : Option (Nat × Nat) → Nat → Prop} {w : World} {roots : List Root} {gh : Nat → Gh} {c : VV} {v : Value} {cs : List VV} {vs : List Value} (h : VRs ok w roots gh (c :: cs) (v :: vs)) :
    VRs ok w roots gh [c] [v] := by
  obtain ⟨v', h1, h2⟩ := h.get 0 c rfl
  simp at h1; subst h1; exact h2

theorem ofC1_rel {ok : Option (Nat × Nat) → Nat → Prop} {w : World} {roots : List Root} {gh : Nat → Gh} (v : Value) : VRs ok w roots gh [ofC1 v] [v] := by
  unfold ofC1
  split <;> first | exact .sc (.int _ _) .nil | exact .sc (.bool _) .nil | exact .sc (.str _) .nil | exact .sc .nilp .nil | exact .sc .nils .nil | exact .sc .nilf .nil | exact .sc .nili .nil | exact .undef _ .nil

theorem ofC_rel {ok : Option (Nat × Nat) → Nat → Prop} {w : World} {roots : List Root} {gh : Nat → Gh} (v : Value) : VRs ok w roots gh [ofC v] [v] := by
  unfold ofC
  split
  · rename_i cs
    have h : ∀ l : List Value, VRs ok w roots gh (l.map ofC1) l := by
      intro l
      induction l with
      | nil => exact .nil
      | cons v l ih => exact VRs.app (ofC1_rel v) ih
    split
    · rename_i ha
      have := VRs.agg (w := w) (ok := ok) (roots := roots) (gh := gh) _ _ (h cs.toList) (fun u hu => List.all_eq_true.1 ha u hu) .nil
      simpa using this
    · exact .undef _ .nil
  · exact ofC1_rel v

theorem EnvR.ev {ok : Option (Nat × Nat) → Nat → Prop} {w : World} {roots : List Root} {gh : Nat → Gh} {env : List (Nat × VV)} {a : Act} (h : EnvR ok w roots gh env a.tmps) (x : Operand) :
    VRs ok w roots gh [ev env x] [a.eval x] := by
  cases x with
  | tmp t => exact h t
  | const v => exact ofC_rel v
  | func f => exact VRs.sc (.fn f) .nil
  | global g => exact .undef _ .nil

theorem look_put (env : List (Nat × VV)) (d : Nat) (c : VV) (t : Nat) : look (put env d c) t = if d = t then c else look env t := by
  induction env with
  | nil => simp [put, look]
  | cons p r ih =>
    obtain ⟨k, e⟩ := p
    simp only [put]
    by_cases hk : k = d
    · subst hk; simp only [if_true, look]; split <;> simp_all
    · simp only [hk, if_false, look, ih]
      by_cases h1 : k = t
      · subst h1; simp [Ne.symm hk]
      · simp [h1]

theorem EnvR.put {ok : Option (Nat × Nat) → Nat → Prop} {w : World} {roots : List Root} {gh : Nat → Gh} {env : List (Nat × VV)} {tmps : Array Value} (h : EnvR ok w roots gh env tmps) {d : Nat} {c : VV} {v : Value}
    (hd : d < tmps.size) (hc : VRs ok w roots gh [c] [v]) : EnvR ok w roots gh (put env d c) (tmps.setIfInBounds d v) := by
  intro t
  rw [look_put]
  by_cases e : d = t
  · subst e
    have hs : (tmps.setIfInBounds d v).getD d undef = v := by simp [Array.getD, hd]
    rw [if_pos rfl, hs]; exact hc
  · have ho : (tmps.setIfInBounds d v).getD t undef = tmps.getD t undef := by
      simp only [Array.getD_eq_getD_getElem?, Array.getElem?_setIfInBounds]
      rw [if_neg e]
    rw [if_neg e, ho]; exact h t
end Go.Proofs.YtjldkpggcjolcaaV
