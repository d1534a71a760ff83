/- A call's arguments as they lie in memory. Conditions: those of each theorem. -/
import Derived.Test.YtjldkpggcjolcaaV29
import Derived.WalkKit
import Derived.ProofKit
import Derived.OpenShut
import Derived.ShutString
import Derived.ChangeOld
import Derived.Below
import Derived.SizedLaws
import Derived.ChangeSlices
namespace Go.Proofs.YtjldkpggcjolcaaV
set_option linter.unusedVariables false
set_option linter.unusedSimpArgs false

/-- A slice of integers. -/
@[simp] def ints (l : List Int) : VV := .sl none 1 (l.map fun n => [.int .i64 n])

theorem flat_ints (l : List Int) : (l.map fun n => [VV.int .i64 n]).flatten = l.map fun n => VV.int .i64 n := by
  induction l with
  | nil => rfl
  | cons x l ih => simp [ih]

theorem scs_ints (k : IntKind) (l : List Int) : Scs (l.map fun n => VV.int k n) (l.map fun n => Value.int k n) := by
  induction l with
  | nil => exact .nil
  | cons x l ih => exact .cons (.int k x) ih

theorem ro_row {w : World} {k : IntKind} {a : Addr} {len cap : Nat} {zs : List Int} (hl : len ≤ cap) (hz : len ≤ zs.length) (hc : ∀ i, i < zs.length → w.cell? (a.add i) = some (.int k (zs.getD i 0))) :
    RO (fun b => b < w.heap.size) w [.tr 1 ((zs.take len).map fun n => [VV.int k n])] [.slice (some a) len cap] := by
  by_cases h0 : len = 0
  · subst h0; exact .tr0 1 _ _ .nil
  · have h1 := hc 0 (by omega)
    obtain ⟨b, off, sub⟩ := a
    have hsub : sub = none := by
      cases sub with
      | none => rfl
      | some x => simp only [Addr.add, World.cell?, Option.isSome_some, if_true] at h1; split at h1 <;> cases h1
    subst hsub
    have hb : b < w.heap.size := World.block_lt_of_cell? w _ h1
    have e : ((zs.take len).map fun n => [VV.int k n]).length = len := by simp; omega
    have := @RO.tr (fun b => b < w.heap.size) w [] [] ((zs.take len).map fun n => [VV.int k n]) b off cap 1 ((zs.take len).map fun n => Value.int k n) hb (fun r hr => by simp only [List.mem_map] at hr; obtain ⟨_, _, rfl⟩ := hr; rfl) (fun q u hu => ?_) (by rw [e]; exact hl) ?_ .nil
    · rw [e] at this; exact this
    · rw [List.getElem?_map, List.getElem?_take] at hu
      split at hu
      · rename_i hq
        have hq' : q < zs.length := by omega
        simp only [List.getElem?_eq_getElem hq', Option.map_some, Option.some.injEq] at hu
        have := hc q hq'
        rw [Addr.add_lit] at this
        rw [this, ← hu]
        simp [hq']
      · simp at hu
    · have h2 : ((zs.take len).map fun n => [VV.int k n]).flatten = (zs.take len).map fun n => VV.int k n := by
        generalize zs.take len = l
        induction l with
        | nil => rfl
        | cons x l ih => simp [ih]
      rw [h2]
      exact (scs_ints k _).ro

open Go.ChangeShapes Go.WideShapes in
/-- How long a slice of numbers may be. -/
theorem sized_row {H : Type} {enc : TypeId × Value → H} {P : Program} {W : World} {base : Nat} {spare : Nat → Bool} {held : Bool} {t e : TypeId} {k : IntKind} {a : Option Addr} {len cap : Nat} {d : DataW H} {ps : List MemPlace} {ts : List TypeId} {ds : List (DataW H)} {j : Nat}
    (hsz : (DataW.weightsEach P ts ds).all (· ≤ reachBytes) = true) (ht : ts[j]? = some t) (hd : ds[j]? = some d) (hu : P.underlying t = some (.slice e)) (he : P.underlying e = some (.int k)) (hc : P.cellsOf e = 1) {B : Nat} (hB : P.bytesOf e = B)
    (h : DataW.Trod enc P W base spare held t (.slice a len cap) d ps) : len * B ≤ 140737488351232 := by
  obtain ⟨fuel, hf⟩ := h
  rcases open_ints hu he hc hf with ⟨hcs, _⟩ | ⟨x, l, c, zs, hcs, _, hl, _, hz, hx, _, _⟩
  · simp [Value.cells] at hcs
    obtain ⟨_, rfl, _⟩ := hcs
    omega
  · simp [Value.cells] at hcs
    obtain ⟨_, rfl, rfl⟩ := hcs
    have hx1 := (Prod.mk.inj hx).1
    subst hx1
    have z := sized_slice hsz ht hd hu
    have hle : len ≤ zs.length := by rw [hz]; split <;> omega
    have hlen : (lits (H := H) k (zs.take len)).length + (lits (H := H) k (zs.drop len)).length = zs.length := by simp [lits]; omega
    rw [hB, hlen] at z
    exact Nat.le_trans (Nat.mul_le_mul_right B hle) z

/-- What a contract gives for a call whose arguments read. -/
theorem PC.calls {L : Low} {P : Program} {f : Nat} {args : List VV} {b : Bool} (h : PC L P f args (.bool b)) {w : World} (hG : Gl P L w []) {vs : List Value} (hv : VRs (fun _ b => b < w.heap.size) w [] gh0 args vs) :
    Calls P f vs.toArray w fun e w' => e = .returned (.bool b) ∧ RowKit.Below w.heap.size w w' := by
  refine (h.2 w vs [] hG .nil (fun _ h => by cases h) (hv.mono (.refl _ _) fun _ _ _ b hb => ⟨⟨hb, by simp⟩, rfl⟩)).mono fun e w' ⟨v, F, he, hb, _, _, hr⟩ => ?_
  refine ⟨?_, hb⟩
  have : v = .bool b := by
    cases hr with
    | one h t => cases h with | sc h _ => cases h; rfl
  rw [he, this]
end Go.Proofs.YtjldkpggcjolcaaV
