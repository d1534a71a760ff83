/- What simp works out in a walk. Conditions: none. -/
import Derived.Test.YtjldkpggcjolcaaV27
namespace Go.Proofs.YtjldkpggcjolcaaV
set_option linter.unusedVariables false
set_option linter.unusedSimpArgs false

attribute [simp] vwp vops vop vpure veff vcond vbinC dstPut put look ev ofC ofC1 initEnv isStr vlen rowsOf vbin vindexAddr vload cellsAt tagOk TK.isAgg lift vfieldAddr vfield ptrOk cellsV vstore vslice vappend newsOf
  fieldsEq scEq isNilEq vun vconv vindex vmm vmms fillV litCells byteRows TI.plain vseal chunks gval qops qop szOf bound part2
  post Exports rvV rvVs expAll expVs expV expC expCs ownVs ownV ownC ownCs readVs readV readC readCs
  stLe envLe hLe envRefs refsLt refsLts heapRefs
  adopt adoptVs adoptCs argVs argV argC argCs noSl noSlV noSlC noRef noRefC

@[simp] theorem natCast_eq (a b : Nat) : ((a : Int) = b) = (a = b) := by rw [Int.ofNat_inj]

@[simp] theorem u8Cast_eq (a b : UInt8) : (a.toNat = b.toNat) = (a = b) := by rw [UInt8.toNat_inj]

theorem wrapi64 {n : Int} (h1 : -9223372036854775808 ≤ n) (h2 : n ≤ 9223372036854775807) : IntKind.i64.wrap n = n := by
  simp [IntKind.wrap, IntKind.signed, IntKind.bits]
  omega

/-- Rows filled from the left. -/
def fillUp {α : Type} (done : List α) (z : α) (n : Nat) : List α := done ++ List.replicate (n - done.length) z

@[simp] theorem fillUp_nil {α : Type} (z : α) (n : Nat) : fillUp [] z n = List.replicate n z := by simp [fillUp]
@[simp] theorem fillUp_length {α : Type} {done : List α} {z : α} {n : Nat} (h : done.length ≤ n) : (fillUp done z n).length = n := by simp [fillUp]; omega
@[simp] theorem fillUp_get {α : Type} {done : List α} {z : α} {n i : Nat} (hi : i = done.length) (h : done.length < n) : (fillUp done z n)[i]? = some z := by
  subst hi
  simp [fillUp, List.getElem?_append_right, List.getElem?_replicate]; omega
@[simp] theorem fillUp_set {α : Type} {done : List α} {z r : α} {n i : Nat} (hi : i = done.length) (h : done.length < n) : (fillUp done z n).set i r = fillUp (done ++ [r]) z n := by
  subst hi
  unfold fillUp
  obtain ⟨m, hm⟩ : ∃ m, n - done.length = m + 1 := ⟨n - done.length - 1, by omega⟩
  have : n - (done ++ [r]).length = m := by simp; omega
  rw [hm, this, List.replicate_succ, List.set_append_right _ _ (Nat.le_refl _)]
  simp
@[simp] theorem fillUp_all {α : Type} {done : List α} {z : α} {n : Nat} (h : n ≤ done.length) : fillUp done z n = done := by
  have : n - done.length = 0 := by omega
  simp [fillUp, this]

@[simp] theorem isSc_int (k : IntKind) (n : Int) : isSc (.int k n) = true := rfl
@[simp] theorem isSc_bool (b : Bool) : isSc (.bool b) = true := rfl
@[simp] theorem isSc_str (s : List UInt8) : isSc (.str s) = true := rfl
@[simp] theorem isSc_nilp : isSc .nilp = true := rfl
@[simp] theorem isSc_nils : isSc .nils = true := rfl
@[simp] theorem isSc_nilf : isSc .nilf = true := rfl
@[simp] theorem isSc_nili : isSc .nili = true := rfl
@[simp] theorem isSc_err : isSc .err = true := rfl
@[simp] theorem isSc_fn (f : Nat) : isSc (.fn f []) = true := rfl
@[simp] theorem isSc_tr (sz : Nat) (rows : List (List VV)) : isSc (.tr sz rows) = false := rfl
@[simp] theorem isSc_sl (tag : Option (Nat × Nat)) (sz : Nat) (rows : List (List VV)) : isSc (.sl tag sz rows) = false := rfl
@[simp] theorem isSc_rs (k g lo n : Nat) : isSc (.rs k g lo n) = false := rfl
@[simp] theorem lt_cons (a b : Nat) : ((a : Int) < a + (b + 1)) = True := by simp; omega
@[simp] theorem le_cons (a b : Nat) : ((a : Int) + (b + 1) ≤ a) = False := by simp
theorem wrapN {n : Nat} (h : n < 9223372036854775807) : IntKind.i64.wrap ((n : Int) + 1) = ((n + 1 : Nat) : Int) := by
  rw [wrapi64 (by omega) (by omega)]; simp
@[simp] theorem fillUp_getE {α : Type} {done : List α} {z : α} {n i : Nat} (h : i < (fillUp done z n).length) (hi : i = done.length) : (fillUp done z n)[i] = z := by
  subst hi
  simp [fillUp]

@[simp] theorem take_map_len {α β : Type} (f : α → β) (l : List α) : (l.map f).take l.length = l.map f := by rw [List.take_of_length_le (by simp)]

theorem drop_get {α : Type} {l : List α} {i : Nat} {y : α} (h : l[i]? = some y) : l.drop i = y :: l.drop (i + 1) := by
  obtain ⟨hi, e⟩ := List.getElem?_eq_some_iff.1 h
  rw [← e]; exact List.drop_eq_getElem_cons hi

theorem drop_end {α : Type} {l : List α} {i : Nat} (h : ¬ i < l.length) : l.drop i = [] := List.drop_eq_nil_of_le (by omega)
end Go.Proofs.YtjldkpggcjolcaaV
