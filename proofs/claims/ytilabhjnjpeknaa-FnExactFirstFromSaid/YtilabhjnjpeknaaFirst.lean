/- What the functions behind FnExactFirstFrom compute. Conditions: the lengths that each theorem names. -/
import Derived.Test.YtilabhjnjpeknaaV30
import Derived.Test.YtilabhjnjpeknaaProg
namespace Go.Proofs.Ytilabhjnjpeknaa.first
open Go.Proofs.YtilabhjnjpeknaaV
set_option maxRecDepth 100000
set_option linter.unusedSimpArgs false
@[simp] theorem ty3 : tiC Try.prog 3 = some ⟨.int .i64, 1, 8, [.int .i64 0], [.int .i64 0], [none]⟩ := by kernel_rfl
@[simp] theorem ty4 : tiC Try.prog 4 = some ⟨.bool, 1, 1, [.bool false], [.bool false], [none]⟩ := by kernel_rfl
@[simp] theorem ty9 : tiC Try.prog 9 = some ⟨.str, 1, 16, [.str []], [.str []], [none]⟩ := by kernel_rfl
@[simp] theorem ty22 : tiC Try.prog 22 = some ⟨.slice 3, 1, 24, [.nils], [.tr 1 []], [some 1]⟩ := by kernel_rfl

def ffrom (x : Int) : List Int → Int
  | [] => -1
  | y :: r => if x ≤ y then y else ffrom x r

theorem c9 (l : List Int) (x : Int) (hl : l.length ≤ 140737488355328) : PC Try.prog 9 [ints l, .int .i64 x] (.int .i64 (ffrom x l)) := by
  refine PC.intro (tiC_ok _) (by kernel_rfl) Try.func9 rfl rfl (by decide) (rs := [4]) rfl rfl (by kernel_rfl) ?_
  intro C sn A g0 F0 w0
  simp
  refine VLoop.rounds (tiC_ok _) (by kernel_rfl) (ι := {i : Nat // i ≤ l.length ∧ ffrom x (l.drop i) = ffrom x l}) (fun i => ⟨[(0, ints l), (1, .int .i64 x), (5, .int .i64 i.1)], [.frame sn A]⟩) (fun i => l.length - i.1) ⟨0, by simp⟩ (fun _ => rfl) (by simp) ?_
  rintro ⟨i, hi, hf⟩
  by_cases h : i < l.length
  · obtain ⟨y, hy⟩ : ∃ y, l[i]? = some y := ⟨_, List.getElem?_eq_getElem h⟩
    rw [drop_get hy, ffrom] at hf
    simp [h, hy]
    obtain ⟨_, rfl⟩ := List.getElem?_eq_some_iff.1 hy
    refine ⟨fun hx => by rw [if_pos hx] at hf; exact hf, fun hx => ⟨i + 1, ?_, ⟨by omega, by rw [if_neg (by omega)] at hf; exact hf⟩, by omega⟩⟩
    rw [wrapi64 (by omega) (by omega)]; simp
  · rw [drop_end h] at hf
    simp [h]
    exact hf

/-- laws.toIntS -/
theorem c10 (l : List Int) (hl : l.length ≤ 274877906944) : PC Try.prog 10 [ints l] (.tr 1 (l.map fun n => [.int .i64 n])) := by
  refine PC.intro (tiC_ok _) (by kernel_rfl) Try.func10 rfl rfl (by decide) (rs := [2]) rfl rfl (by kernel_rfl) ?_
  intro C sn A g0 F0 w0
  simp
  refine ⟨by omega, ?_⟩
  refine VLoop.rounds (tiC_ok _) (by kernel_rfl) (ι := {p : List Int × List Int // p.1 ++ p.2 = l}) (fun p => ⟨[(0, ints l), (3, .rs 1 0 0 l.length), (4, .int .i64 p.1.1.length)], [.frame sn A, .arr 0 true 1 (fillUp (p.1.1.map (fun n => [.int .i64 n])) [.int .i64 0] l.length)]⟩) (fun p => p.1.2.length) ⟨([], l), by simp⟩ (fun _ => rfl) (by simp) ?_
  rintro ⟨⟨pre, suf⟩, hp⟩
  simp at hp
  subst hp
  simp at hl
  cases suf with
  | cons y suf =>
    simp at hl
    simp (disch := first | omega | (simp; done) | fail) [wrapN]
    exact ⟨pre ++ [y], by simp, suf, by simp⟩
  | nil => simp

/-- laws.eqIntS -/
theorem c12 (l m : List Int) (hl : l.length ≤ 274877906944) (hm : m.length ≤ 274877906944) : PC Try.prog 12 [ints l, ints m] (.bool (decide (l = m))) := by
  refine PC.intro (tiC_ok _) (by kernel_rfl) Try.func12 rfl rfl (by decide) (rs := [4]) rfl rfl (by kernel_rfl) ?_
  intro C sn A g0 F0 w0
  simp
  refine ⟨by rintro h rfl; exact h rfl, fun hlm => ?_⟩
  have hlm' : l.length = m.length := by omega
  refine VLoop.rounds (tiC_ok _) (by kernel_rfl) (ι := {i : Nat // i ≤ l.length ∧ decide (l.drop i = m.drop i) = decide (l = m)}) (fun i => ⟨[(0, ints l), (1, ints m), (5, .int .i64 i.1)], [.frame sn A]⟩) (fun i => l.length - i.1) ⟨0, by simp⟩ (fun _ => rfl) (by simp) ?_
  rintro ⟨i, hi, hf⟩
  by_cases h : i < l.length
  · obtain ⟨y, hy⟩ : ∃ y, l[i]? = some y := ⟨_, List.getElem?_eq_getElem h⟩
    obtain ⟨z, hz⟩ : ∃ y, m[i]? = some y := ⟨_, List.getElem?_eq_getElem (by omega)⟩
    rw [drop_get hy, drop_get hz] at hf
    simp [h, hy, hz]
    obtain ⟨_, rfl⟩ := List.getElem?_eq_some_iff.1 hy
    refine ⟨fun hne e => hne (by subst e; simpa [h] using hz), fun e => ⟨i + 1, by rw [wrapi64 (by omega) (by omega)]; simp, ⟨by omega, by simpa [e] using hf⟩, by omega⟩⟩
  · rw [drop_end h, drop_end (by omega)] at hf
    simp [h]
    simpa using hf

/-- The place of the first that is so; or -1. -/
def idxF (p : Int → Bool) (l : List Int) (i : Nat) : Int := match l with
  | [] => -1
  | y :: r => if p y then i else idxF p r (i + 1)

/-- slices.IndexFunc[[]int,int] -/
theorem c37 {C : Cx} {roots : List Root} {g : Nat} {caps : List VV} (p : Int → Bool) (l : List Int) (hl : l.length ≤ 140737488355328) (h1 : heapRefs roots.length roots = true) (h2 : refsLts roots.length caps = true)
    (hp : ∀ x ∈ l, ∀ K : VV → List Root → Prop, K (.bool (p x)) roots → VCall Try.prog C g (.int .i64 x :: caps) roots K) {K : VV → List Root → Prop} (hK : K (.int .i64 (idxF p l 0)) roots) : VCall Try.prog C 37 [ints l, .fn g caps] roots K := by
  refine VCall.inline (tiC_ok _) (by kernel_rfl) Try.func37 rfl rfl (by decide) (rs := [4]) rfl rfl (by kernel_rfl) ?_
  intro g0 F0 w0
  simp
  refine VLoop.rounds (tiC_ok _) (by kernel_rfl) (ι := {i : Nat // i ≤ l.length ∧ idxF p (l.drop i) i = idxF p l 0}) (fun i => ⟨[(0, ints l), (1, .fn g caps), (7, .int .i64 l.length), (8, .int .i64 i.1)], roots⟩) (fun i => l.length - i.1) ⟨0, by simp⟩ (fun _ => by simp) (by simp [h1, h2]) ?_
  rintro ⟨i, hi, hf⟩
  by_cases h : i < l.length
  · obtain ⟨y, hy⟩ : ∃ y, l[i]? = some y := ⟨_, List.getElem?_eq_getElem h⟩
    rw [drop_get hy, idxF] at hf
    simp [h, hy]
    obtain ⟨_, rfl⟩ := List.getElem?_eq_some_iff.1 hy
    refine hp _ (List.getElem_mem _) _ ?_
    simp [h1, h2]
    refine ⟨fun hb => by rw [if_pos hb] at hf; rw [hf]; exact hK, fun hb => ⟨i + 1, by rw [wrapi64 (by omega) (by omega)]; simp, ⟨by omega, by simpa [hb] using hf⟩, by omega⟩⟩
  · rw [drop_end h, idxF] at hf
    simp [h]
    rw [hf]; exact hK

theorem ffrom_idx (x : Int) : ∀ (l : List Int) (i : Nat), (idxF (fun y => decide (x ≤ y)) l i = -1 ∧ ffrom x l = -1) ∨ ∃ j : Nat, ∃ y, idxF (fun y => decide (x ≤ y)) l i = ((i + j : Nat) : Int) ∧ l[j]? = some y ∧ ffrom x l = y
  | [], i => .inl ⟨rfl, rfl⟩
  | y :: r, i => by
    simp only [idxF, ffrom]
    by_cases h : x ≤ y
    · exact .inr ⟨0, y, by simp [h], rfl, by simp [h]⟩
    · rcases ffrom_idx x r (i + 1) with ⟨a, b⟩ | ⟨j, z, a, b, c⟩
      · exact .inl ⟨by simp [h, a], by simp [h, b]⟩
      · exact .inr ⟨j + 1, z, by simp [h, a]; omega, by simpa using b, by simp [h, c]⟩

/-- impl.FirstFrom -/
theorem c11 (l : List Int) (x : Int) (hl : l.length ≤ 140737488355328) : PC Try.prog 11 [ints l, .int .i64 x] (.int .i64 (ffrom x l)) := by
  refine PC.intro (tiC_ok _) (by kernel_rfl) Try.func11 rfl rfl (by decide) (rs := [4]) rfl rfl (by kernel_rfl) ?_
  intro C sn A g0 F0 w0
  simp
  refine c37 (fun y => decide (x ≤ y)) l hl (by simp) (by simp) (fun y _ K hK => ?_) ?_
  · refine VCall.inline (tiC_ok _) (by kernel_rfl) Try.func38 rfl rfl (by decide) (rs := [3]) rfl rfl (by kernel_rfl) ?_
    intro g0 F0 w0
    simpa using hK
  · rcases ffrom_idx x l 0 with ⟨a, b⟩ | ⟨j, z, a, b, c⟩
    · simp [a, b]
    · simp [a, b, c]
      omega

/-- laws.FnExactFirstFrom -/
theorem c3 (l : List Int) (x : Int) (hl : l.length ≤ 140737488355328) : PC Try.prog 3 [ints l, .int .i64 x] (.bool true) := by
  refine PC.intro (tiC_ok _) (by kernel_rfl) Try.func3 rfl rfl (by decide) (rs := [4]) rfl rfl (by kernel_rfl) ?_
  intro C sn A g0 F0 w0
  simp
  intro hs
  have hs' : l.length ≤ 1048576 := by omega
  refine VCall.pure (c10 l (by omega)) (by simp) (by simp) ?_
  simp
  refine VCall.pure (c9 l x (by omega)) (by simp) (by simp) ?_
  simp
  refine VCall.pure (c10 l (by omega)) (by simp) (by simp) ?_
  simp
  refine VCall.pure (c11 l x (by omega)) (by simp) (by simp) ?_
  simp
  refine VCall.pure (c10 l (by omega)) (by simp) (by simp) ?_
  simp
  refine VCall.pure (c12 l l (by omega) (by omega)) (by simp) (by simp) ?_
  simp

end Go.Proofs.Ytilabhjnjpeknaa.first
