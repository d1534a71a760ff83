/- A table of types, from the program, and the check that it fits. Conditions: none. -/
import Derived.Test.YtjldkpggcjolcaaV25
namespace Go.Proofs.YtjldkpggcjolcaaV
set_option linter.unusedVariables false
set_option linter.unusedSimpArgs false

def scB : VV → Value → Bool
  | .int k n, .int k' n' => decide (k = k') && decide (n = n')
  | .bool b, .bool b' => b == b'
  | .str s, .string t => decide (s = t.data.toList)
  | .nilp, .pointer none => true
  | .nils, .slice none 0 0 => true
  | .nilf, .nilFunc => true
  | .nili, .nilIface => true
  | _, _ => false

theorem scB_ok {c : VV} {v : Value} (h : scB c v = true) : Sc c v := by
  unfold scB at h
  split at h <;> try (cases h; done)
  · simp only [Bool.and_eq_true, decide_eq_true_eq] at h
    obtain ⟨rfl, rfl⟩ := h; exact .int _ _
  · rename_i b b'
    have : b = b' := by simpa using h
    subst this; exact .bool _
  · rename_i s t
    have h' : s = t.data.toList := by simpa using h
    subst h'
    have : (⟨t.data.toList.toArray⟩ : ByteArray) = t := by cases t; simp
    have h2 := Sc.str t.data.toList
    rw [this] at h2; exact h2
  · exact .nilp
  · exact .nils
  · exact .nilf
  · exact .nili

def scsB : List VV → List Value → Bool
  | [], [] => true
  | c :: cs, v :: vs => scB c v && scsB cs vs
  | _, _ => false

theorem scsB_ok : ∀ {cs : List VV} {vs : List Value}, scsB cs vs = true → Scs cs vs
  | [], [], _ => .nil
  | c :: cs, v :: vs, h => by
    simp only [scsB, Bool.and_eq_true] at h
    exact .cons (scB_ok h.1) (scsB_ok h.2)
  | [], _ :: _, h => by cases h
  | _ :: _, [], h => by cases h

def ztB : List VV → List Value → Bool
  | [], [] => true
  | c :: cs, v :: vs => (match c, v with
    | .tr _ [], .slice none 0 0 => true
    | c, v => scB c v) && ztB cs vs
  | _, _ => false

theorem ztB_ok (w : World) : ∀ {cs : List VV} {vs : List Value}, ztB cs vs = true → OWs w cs vs []
  | [], [], _ => .nil
  | c :: cs, v :: vs, h => by
    simp only [ztB, Bool.and_eq_true] at h
    have ih := ztB_ok w h.2
    have h1 := h.1
    split at h1
    · exact .tr0 _ ih
    · exact .sc (scB_ok h1) ih
  | [], _ :: _, h => by cases h
  | _ :: _, [], h => by cases h

def fieldB (P : Program) (f : Field) : Bool := decide (0 < P.cellsOf f.type) && !(f.name == "_") && (P.info? f.type).isSome

def tyOkB (P : Program) (t : Nat) (i : TI) : Bool :=
  (match P.underlying t, i.k with
    | some (.int k), .int k' => decide (k = k')
    | some .bool, .bool => true
    | some .string, .str => true
    | some (.slice e), .slice e' => e == e'
    | some (.struct fields), .struct fs => decide (fields.toList.map (fun f => (f.offset, P.cellsOf f.type, f.type)) = fs) && fields.toList.all (fieldB P) && !P.stoodInHeld t && !P.eqGuardType P.depth t
    | some (.pointer e), .ptr e' => e == e'
    | some (.func _ _ _), .func => true
    | some (.struct _), .other => false
    | some (.array _ _), .other => false
    | some _, .other => true
    | _, _ => false) &&
  match P.info? t with
  | some inf => match inf.zero with
    | some z => decide (inf.size = i.size) && decide (inf.bytes = i.bytes) && scsB i.zero z.cells.toList && (if i.k.isAgg then (match z with | .agg _ => true | _ => false) else decide (z.cells.size = 1) && z.oneCell') &&
        decide (z.cells.size = i.size) && ztB i.zt z.cells.toList
    | none => false
  | none => false

theorem one_cells {z : Value} (h : z.oneCell' = true) : z.cells = #[z] := by
  have := cells_one h
  simpa using this

theorem tyOkB_ok {P : Program} {t : Nat} {i : TI} (h : tyOkB P t i = true) : TyOk P t i := by
  simp only [tyOkB, Bool.and_eq_true] at h
  obtain ⟨h1, h2⟩ := h
  refine ⟨?_, ?_⟩
  · split at h1
    · rename_i k k' hd hk; exact ⟨_, hd, by rw [hk]; simp at h1; rw [h1]⟩
    · rename_i hd hk; exact ⟨_, hd, by rw [hk]⟩
    · rename_i hd hk; exact ⟨_, hd, by rw [hk]⟩
    · rename_i e e' hd hk; exact ⟨_, hd, by rw [hk]; simp at h1; rw [h1]⟩
    · rename_i fields fs hd hk
      simp only [Bool.and_eq_true, decide_eq_true_eq, Bool.not_eq_true', List.all_eq_true] at h1
      obtain ⟨⟨⟨a1, a2⟩, a3⟩, a4⟩ := h1
      refine ⟨_, hd, ?_⟩
      rw [hk]
      refine ⟨fields, rfl, a1, fun f hf => ?_, a3, a4⟩
      have := a2 f hf
      simp only [fieldB, Bool.and_eq_true, decide_eq_true_eq, Bool.not_eq_true', beq_eq_false_iff_ne] at this
      exact ⟨this.1.1, this.1.2, Option.isSome_iff_exists.1 this.2⟩
    · rename_i e e' hd hk; exact ⟨_, hd, by rw [hk]; simp at h1; rw [h1]⟩
    · rename_i a b c hd hk; exact ⟨_, hd, by rw [hk]; exact ⟨a, b, c, rfl⟩⟩
    · cases h1
    · cases h1
    · rename_i d hn1 hn2 hd hk
      refine ⟨_, hd, ?_⟩
      rw [hk]
      cases d <;> first | exact hn1 _ rfl | exact hn2 _ _ rfl | trivial
    · cases h1
  · split at h2
    · rename_i inf hinf
      split at h2
      · rename_i z hz
        simp only [Bool.and_eq_true, decide_eq_true_eq] at h2
        obtain ⟨⟨⟨⟨⟨b1, b2⟩, b3⟩, b4⟩, b5⟩, b6⟩ := h2
        refine ⟨inf, z, hinf, b1, b2, hz, scsB_ok b3, fun e => ?_, fun e => ?_, b5, fun w => ztB_ok w b6⟩
        · rw [e] at b4
          simp only [if_true] at b4
          split at b4
          · exact ⟨_, rfl⟩
          · cases b4
        · rw [e] at b4
          simp only [Bool.false_eq_true, if_false, Bool.and_eq_true] at b4
          exact one_cells b4.2
      · cases h2
    · cases h2

/-- The table as a list. -/
def tblOf (l : List (Nat × TI)) (t : Nat) : Option TI := l.lookup t

theorem tblOf_ok {P : Program} {l : List (Nat × TI)} (h : l.all (fun p => tyOkB P p.1 p.2) = true) : TOk P (tblOf l) := by
  intro t i hi
  have hm : (t, i) ∈ l := by
    clear h
    unfold tblOf at hi
    induction l with
    | nil => cases hi
    | cons p l ih =>
      obtain ⟨a, b⟩ := p
      simp only [List.lookup] at hi
      split at hi
      · rename_i e
        have : t = a := by simpa using e
        subst this
        cases hi; simp
      · exact List.mem_cons_of_mem _ (ih hi)
  exact tyOkB_ok (List.all_eq_true.1 h _ hm)

/-- What the table tells of a type, worked out. -/
def slsOf (P : Program) : Nat → Nat → List (Option Nat)
  | 0, _ => []
  | fuel + 1, t => match P.underlying t with
    | some (.slice e) => [some (P.cellsOf e)]
    | some (.struct fields) => (fields.toList.map fun f => slsOf P fuel f.type).flatten
    | _ => List.replicate (P.cellsOf t) none

def ztOf : List VV → List (Option Nat) → List VV
  | .nils :: cs, some sz :: ss => .tr sz [] :: ztOf cs ss
  | c :: cs, _ :: ss => c :: ztOf cs ss
  | cs, _ => cs

def tiOf (P : Program) (t : Nat) : Option TI :=
  match P.underlying t, P.info? t with
  | some d, some inf => match inf.zero with
    | some z => some {
        k := match d with
          | .int k => .int k
          | .bool => .bool
          | .string => .str
          | .slice e => .slice e
          | .struct fields => .struct (fields.toList.map fun f => (f.offset, P.cellsOf f.type, f.type))
          | .pointer e => .ptr e
          | .func _ _ _ => .func
          | _ => .other
        size := inf.size, bytes := inf.bytes, zero := z.cells.toList.map ofC1, zt := ztOf (z.cells.toList.map ofC1) (slsOf P 9 t), sls := slsOf P 9 t }
    | none => none
  | _, _ => none

/-- The table of all types that the check lets through. -/
def tiC (P : Program) (t : Nat) : Option TI :=
  match tiOf P t with
  | some i => if tyOkB P t i then some i else none
  | none => none

theorem tiC_ok (P : Program) : TOk P (tiC P) := by
  intro t i h
  unfold tiC at h
  split at h
  · split at h
    · cases h; exact tyOkB_ok (by assumption)
    · cases h
  · cases h
end Go.Proofs.YtjldkpggcjolcaaV
