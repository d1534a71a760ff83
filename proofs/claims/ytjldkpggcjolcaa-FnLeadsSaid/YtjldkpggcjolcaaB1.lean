/- Strings. Conditions: the lengths that each theorem names. -/
import Derived.Test.YtjldkpggcjolcaaA1
import Derived.Test.YtjldkpggcjolcaaSh
namespace Go.Proofs.YtjldkpggcjolcaaT
open Go Go.Proofs Go.Proofs.YtjldkpggcjolcaaV
set_option maxRecDepth 100000
set_option linter.unusedSimpArgs false
set_option linter.unusedVariables false

@[simp] theorem mapM_bytes (l : List UInt8) : (l.map fun b => [VV.int .u8 (b.toNat : Int)]).mapM byteOf1 = some l := by
  induction l with
  | nil => rfl
  | cons b l ih => simp [ih]
@[simp] theorem mapM_bytes1 (l : List UInt8) : l.mapM (byteOf1 ∘ fun b => [VV.int .u8 (b.toNat : Int)]) = some l := by
  induction l with
  | nil => rfl
  | cons b l ih => simp [ih]
@[simp] theorem mapM_bytes2 {α : Type} (f : α → UInt8) (l : List α) : l.mapM (byteOf1 ∘ (fun b => [VV.int .u8 (b.toNat : Int)]) ∘ f) = some (l.map f) := by
  induction l with
  | nil => rfl
  | cons b l ih => simp [ih]
def upB (b : UInt8) : UInt8 := if 97 ≤ b ∧ b ≤ 122 then b - 32 else b
def up (s : List UInt8) : List UInt8 := s.map upB

/-- impl.Upper -/
theorem c_iUpper (s : List UInt8) (hs : s.length ≤ 140737488355328) : PC L0 Try.prog 108 [.str s] (.str (up s)) := by
  refine PC.intro T0_ok fo Try.func108 rfl rfl (by decide) rfl rfl (by kernel_rfl) ?_
  intro C sn A g0 F0 w0 hG
  simp
  refine ⟨hs, ?_⟩
  refine LoopK.list T0_ok fo s (fun pre suf => ⟨[(0, .str s), (3, .rs 1 0 0 s.length), (8, .rs 1 0 0 s.length), (9, .int .i64 s.length), (10, .int .i64 pre.length)], [.frame sn A, .arr 0 true 1 ((pre.map upB ++ suf).map fun b => [.int .u8 b.toNat])]⟩) (fun _ suf b => b = suf) s (fun _ _ => rfl) (by simp) rfl ?_ ?_
  · rintro pre r suf _ rfl rfl
    simp at hs
    by_cases h1 : (97 : Int) ≤ r.toNat
    · by_cases h2 : (r.toNat : Int) ≤ 122
      · have hu : (upB r).toNat = r.toNat - 32 := by
          rw [upB, if_pos ⟨by rw [UInt8.le_iff_toNat_le]; simp; omega, by rw [UInt8.le_iff_toNat_le]; simp; omega⟩]
          rw [UInt8.toNat_sub_of_le _ _ (by rw [UInt8.le_iff_toNat_le]; simp; omega)]; rfl
        simp (disch := first | omega | assumption | (simp; done) | fail) [wrapi64, wrapu8, h1, h2]
        omega
      · have hu : upB r = r := by
          rw [upB, if_neg]; rintro ⟨_, h⟩; rw [UInt8.le_iff_toNat_le] at h; simp at h; omega
        simp (disch := first | omega | assumption | (simp; done) | fail) [wrapi64, wrapu8, h1, h2, hu]
    · have hu : upB r = r := by
        rw [upB, if_neg]; rintro ⟨h, _⟩; rw [UInt8.le_iff_toNat_le] at h; simp at h; omega
      simp (disch := first | omega | assumption | (simp; done) | fail) [wrapi64, wrapu8, h1, hu]
  · rintro _ rfl
    simp [up]

/-- The pieces between the bytes c. -/
def partsA (c : UInt8) (cur : List UInt8) : List UInt8 → List (List UInt8)
  | [] => [cur]
  | x :: r => if x = c then cur :: partsA c [] r else partsA c (cur ++ [x]) r
def parts (c : UInt8) (s : List UInt8) : List (List UInt8) := partsA c [] s
theorem partsA_len (c : UInt8) : ∀ (s cur : List UInt8), (partsA c cur s).length ≤ s.length + 1
  | [], cur => by simp [partsA]
  | x :: r, cur => by
    rw [partsA]
    split
    · have := partsA_len c r []; simp; omega
    · have := partsA_len c r (cur ++ [x]); simp; omega
theorem partsA_pos (c : UInt8) : ∀ (s cur : List UInt8), 1 ≤ (partsA c cur s).length
  | [], cur => by simp [partsA]
  | x :: r, cur => by
    rw [partsA]
    split
    · simp
    · exact partsA_pos c r (cur ++ [x])
theorem u8_beq (x c : UInt8) : ((x.toNat : Int) = c.toNat) = (x = c) := by
  rw [Int.ofNat_inj, UInt8.toNat_inj]

/-- spec.Parts -/
theorem c_sParts (s : List UInt8) (c : UInt8) (hs : s.length ≤ 1099511627) : PC L0 Try.prog 83 [.str s, .int .u8 c.toNat] (.tr 1 ((parts c s).map strRow)) := by
  refine PC.intro T0_ok fo Try.func83 rfl rfl (by decide) rfl rfl (by kernel_rfl) ?_
  intro C sn A g0 F0 w0 hG
  simp
  refine LoopK.rounds T0_ok fo (ι := {p : (Nat × List (List UInt8)) × Nat × Nat // (p.1.1 ≤ s.length → p.2.1 ≤ p.1.1 ∧ p.1.2 ++ partsA c ((s.take p.1.1).drop p.2.1) (s.drop p.1.1) = parts c s) ∧ (s.length < p.1.1 → p.1.1 = s.length + 1 ∧ p.1.2 = parts c s)})
    (fun p => ⟨[(0, .str s), (1, .int .u8 c.toNat), (5, .rs 1 p.1.2.2 0 p.1.1.2.length), (6, .int .i64 p.1.2.1), (7, .int .i64 p.1.1.1)], [.frame sn A, .arr p.1.2.2 true 1 (p.1.1.2.map strRow)]⟩) (fun p => s.length + 1 - p.1.1.1) ⟨((0, []), 0, 0), by simp [parts]⟩ (fun _ => rfl) (by simp) ?_
  rintro ⟨⟨⟨i, O⟩, fr, g⟩, hi1, hi2⟩
  simp only at hi1 hi2
  have hlen : i ≤ s.length → O.length ≤ s.length := fun h => by
    have h1 := (hi1 h).2
    have h2 := partsA_len c s []
    have h3 : 1 ≤ (partsA c ((s.take i).drop fr) (s.drop i)).length := by
      generalize s.drop i = z; generalize (s.take i).drop fr = y
      cases z with
      | nil => simp [partsA]
      | cons a z => exact partsA_pos c (a :: z) y
    rw [parts] at h1
    rw [← h1] at h2
    simp at h2; omega
  by_cases h : i ≤ s.length
  · obtain ⟨hfr, hO⟩ := hi1 h
    have hlen := hlen h
    by_cases h' : i < s.length
    · obtain ⟨x, hx⟩ : ∃ y, s[i]? = some y := ⟨_, List.getElem?_eq_getElem h'⟩
      have hne : ¬ i = s.length := by omega
      rw [drop_get hx, partsA] at hO
      obtain ⟨_, rfl⟩ := List.getElem?_eq_some_iff.1 hx
      by_cases hxc : s[i] = c
      · rw [if_pos hxc] at hO
        simp [h, h', hne, hxc, hfr]
        refine ⟨by omega, i + 1, O ++ [(s.take i).drop fr], i + 1, ⟨g + 1, ⟨⟨rfl, by simp⟩, wrapN (by omega), wrapN (by omega)⟩, rfl, by simp⟩, ⟨fun _ => ⟨by omega, ?_⟩, fun h => by omega⟩, by omega⟩
        have e0 : (s.take (i + 1)).drop (i + 1) = [] := List.drop_eq_nil_of_le (by simp; omega)
        rw [e0, ← hO]
        simp
      · rw [if_neg hxc] at hO
        simp [h, h', hne, hxc, hfr]
        refine ⟨i + 1, O, fr, ⟨g, ⟨⟨rfl, rfl⟩, rfl, wrapN (by omega)⟩, rfl, rfl⟩, ⟨fun _ => ⟨by omega, ?_⟩, fun h => by omega⟩, by omega⟩
        rw [← hO, List.take_add_one, List.getElem?_eq_getElem h', List.drop_append_of_le_length (by simp; omega)]
        rfl
    · have he : i = s.length := by omega
      subst he
      simp [partsA] at hO
      simp [hfr]
      refine ⟨by omega, s.length + 1, O ++ [s.drop fr], s.length + 1, ⟨g + 1, ⟨⟨rfl, by simp⟩, wrapN (by omega), wrapN (by omega)⟩, rfl, by simp⟩, ⟨fun h => by omega, fun h => ⟨by omega, by rw [← hO]⟩⟩, by omega⟩
  · obtain ⟨rfl, hO⟩ := hi2 (by omega)
    simp [hO, show ¬ ((s.length : Int) + 1 ≤ s.length) by omega]

/-- impl.Parts -/
def tagB (b : UInt8) : Bool := decide (97 ≤ (b.toNat : Int) ∧ (b.toNat : Int) ≤ 122) || (decide (65 ≤ (b.toNat : Int) ∧ (b.toNat : Int) ≤ 90) || decide (48 ≤ (b.toNat : Int) ∧ (b.toNat : Int) ≤ 57))
def tagOk (s : List UInt8) : Bool := s.all tagB && decide (1 ≤ (s.length : Int) ∧ (s.length : Int) ≤ 8)
theorem upTag (r : UInt8) : (decide (65 ≤ ((upB r).toNat : Int) ∧ ((upB r).toNat : Int) ≤ 90) || decide (48 ≤ ((upB r).toNat : Int) ∧ ((upB r).toNat : Int) ≤ 57)) = tagB r := by
  have hb := r.toNat_lt
  by_cases h : 97 ≤ r ∧ r ≤ 122
  · have h' := h
    simp only [UInt8.le_iff_toNat_le] at h'
    have h1 : (97 : UInt8).toNat = 97 := rfl
    have h2 : (122 : UInt8).toNat = 122 := rfl
    have hu : (upB r).toNat = r.toNat - 32 := by
      rw [upB, if_pos h, UInt8.toNat_sub_of_le _ _ (by rw [UInt8.le_iff_toNat_le]; simp; omega)]; rfl
    rw [hu, tagB, Bool.eq_iff_iff]
    simp; omega
  · have h' := h
    simp only [UInt8.le_iff_toNat_le] at h'
    have h1 : (97 : UInt8).toNat = 97 := rfl
    have h2 : (122 : UInt8).toNat = 122 := rfl
    rw [upB, if_neg h, tagB, Bool.eq_iff_iff]
    simp; omega
/-- spec.TagOk -/
theorem c_sTagOk (s : List UInt8) (hs : s.length ≤ 1099511627776) : PC L0 Try.prog 84 [.str s] (.bool (tagOk s)) := by
  refine PC.intro T0_ok fo Try.func84 rfl rfl (by decide) rfl rfl (by kernel_rfl) ?_
  intro C sn A g0 F0 w0 hG
  simp
  refine LoopK.list T0_ok fo s (fun pre (_ : Unit) => ⟨[(0, .str s), (3, .int .i64 pre.length)], [.frame sn A]⟩) (fun pre suf _ => suf.all tagB = s.all tagB) () (fun _ _ => rfl) (by simp) rfl ?_ ?_
  · rintro pre r suf _ rfl hi
    simp at hs
    have hb := r.toNat_lt
    simp only [List.all_append, List.all_cons] at hi
    simp (disch := first | omega | assumption | (simp; done) | fail) [wrapi64]
    by_cases p1 : 97 ≤ (r.toNat : Int) ∧ (r.toNat : Int) ≤ 122
    · have ht : tagB r = true := by simp [tagB, p1]
      refine CallK.pureS (c_l1In _ _ _) (by simp) (by simp) ?_
      simp (disch := first | omega | assumption | (simp; done) | fail) [wrapi64, p1]
      simpa [ht] using hi
    · refine CallK.pureS (c_l1In _ _ _) (by simp) (by simp) ?_
      simp (disch := first | omega | assumption | (simp; done) | fail) [wrapi64, p1]
      by_cases p2 : 65 ≤ (r.toNat : Int) ∧ (r.toNat : Int) ≤ 90
      · have ht : tagB r = true := by simp [tagB, p2]
        refine CallK.pureS (c_l1In _ _ _) (by simp) (by simp) ?_
        simp (disch := first | omega | assumption | (simp; done) | fail) [wrapi64, p2]
        simpa [ht] using hi
      · refine CallK.pureS (c_l1In _ _ _) (by simp) (by simp) ?_
        simp (disch := first | omega | assumption | (simp; done) | fail) [wrapi64, p2]
        by_cases p3 : 48 ≤ (r.toNat : Int) ∧ (r.toNat : Int) ≤ 57
        · have ht : tagB r = true := by simp [tagB, p3]
          refine CallK.pureS (c_l1In _ _ _) (by simp) (by simp) ?_
          simp (disch := first | omega | assumption | (simp; done) | fail) [wrapi64, p3]
          simpa [ht] using hi
        · have ht : tagB r = false := by simp only [tagB, p1, p2, p3]; rfl
          refine CallK.pureS (c_l1In _ _ _) (by simp) (by simp) ?_
          simp (disch := first | omega | assumption | (simp; done) | fail) [wrapi64, p3]
          simp [tagOk, ht]
  · rintro _ hi
    simp
    refine CallK.pureS (c_l1In _ _ _) (by simp) (by simp) ?_
    simp
    rw [tagOk, ← hi]
    simp
/-- impl.within -/
theorem c_within (x a b : Int) : PC L0 Try.prog 100 [.int .i64 x, .int .i64 a, .int .i64 b] (.bool (decide (a ≤ x ∧ x ≤ b))) := by
  refine PC.intro T0_ok fo Try.func100 rfl rfl (by decide) rfl rfl (by kernel_rfl) ?_
  intro C sn A g0 F0 w0 hG
  simp +contextual
/-- impl.TagOk -/
theorem c_iTagOk (s : List UInt8) (hs : s.length ≤ 1099511627776) : PC L0 Try.prog 86 [.str s] (.bool (tagOk s)) := by
  refine PC.intro T0_ok fo Try.func86 rfl rfl (by decide) rfl rfl (by kernel_rfl) ?_
  intro C sn A g0 F0 w0 hG
  simp
  refine LoopK.list T0_ok fo s (fun pre (_ : Unit) => ⟨[(0, .str s), (5, .str s), (6, .int .i64 s.length), (7, .int .i64 pre.length)], [.frame sn A]⟩) (fun pre suf _ => suf.all tagB = s.all tagB) () (fun _ _ => rfl) (by simp) rfl ?_ ?_
  · rintro pre r suf _ rfl hi
    simp at hs
    have hb := r.toNat_lt
    simp only [List.all_append, List.all_cons] at hi
    have e1 : ((pre ++ r :: suf).take (pre.length + 1)).drop pre.length = [r] := by simp [List.take_append]
    simp [wrapN (n := pre.length) (by omega), e1, show (pre.length : Int) + 1 ≤ pre.length + (suf.length + 1) by omega, show (0 : Int) ≤ (pre.length : Int) + 1 by omega, show (pre.length : Int) ≤ (pre.length : Int) + 1 by omega]
    have hu := upTag r
    have hub := (upB r).toNat_lt
    by_cases p1 : (65 : Int) ≤ (upB r).toNat
    · by_cases p2 : ((upB r).toNat : Int) ≤ 90
      · have ht : tagB r = true := by rw [← hu]; simp; omega
        refine CallK.pureS (c_iUpper [r] (by simp)) (by simp) (by simp) ?_
        simp [up, p1, p2]
        exact ⟨wrapi64 (by omega) (by omega), by simpa [ht] using hi⟩
      · have ht : tagB r = false := by rw [← hu]; simp; omega
        by_cases p3 : (48 : Int) ≤ (upB r).toNat
        · by_cases p4 : ((upB r).toNat : Int) ≤ 57
          · omega
          · refine CallK.pureS (c_iUpper [r] (by simp)) (by simp) (by simp) ?_
            simp [up, p1, p2, p3, p4]
            simp [tagOk, ht]
        · omega
    · by_cases p3 : (48 : Int) ≤ (upB r).toNat
      · by_cases p4 : ((upB r).toNat : Int) ≤ 57
        · have ht : tagB r = true := by rw [← hu]; simp; omega
          refine CallK.pureS (c_iUpper [r] (by simp)) (by simp) (by simp) ?_
          simp [up, p1, p3, p4]
          exact ⟨wrapi64 (by omega) (by omega), by simpa [ht] using hi⟩
        · have ht : tagB r = false := by rw [← hu]; simp; omega
          refine CallK.pureS (c_iUpper [r] (by simp)) (by simp) (by simp) ?_
          simp [up, p1, p3, p4]
          simp [tagOk, ht]
      · have ht : tagB r = false := by rw [← hu]; simp; omega
        refine CallK.pureS (c_iUpper [r] (by simp)) (by simp) (by simp) ?_
        simp [up, p1, p3]
        simp [tagOk, ht]
  · rintro _ hi
    simp
    refine CallK.pureS (c_within _ _ _) (by simp) (by simp) ?_
    simp
    rw [tagOk, ← hi]
    simp

/-- strings.Cut at a byte -/
theorem c_index1 (s : List UInt8) (c : UInt8) : PC L0 Try.prog 119 [.str s, .str [c]] (.int .i64 (Go.Lib.indexByte s c)) :=
  PC.ofSc Try.func119 (by decide) rfl (by simp) fun w vs hG hv => by
    cases hv with | cons h1 hv => cases hv with | cons h2 hv => cases hv with | nil =>
      cases h1; cases h2
      exact (Try.stringslite_Index_one _ c w).mono fun e w' ⟨he, hw⟩ => ⟨_, he, by rw [hw]; exact RowKit.Below.refl _ _, .int _ _⟩
theorem indexByte_parts (c : UInt8) : ∀ (s cur : List UInt8), (Go.Lib.indexByte s c = -1 ∧ partsA c cur s = [cur ++ s]) ∨ ∃ i : Nat, i < s.length ∧ Go.Lib.indexByte s c = i ∧ ∃ t, partsA c cur s = (cur ++ s.take i) :: t
  | [], cur => .inl ⟨rfl, by simp [partsA]⟩
  | x :: s, cur => by
    rw [Go.Lib.indexByte, partsA]
    by_cases h : x = c
    · subst h
      exact .inr ⟨0, by simp, by simp, partsA x [] s, by simp⟩
    · have hb : (x == c) = false := by simpa using h
      rw [hb, if_neg h]
      rcases indexByte_parts c s (cur ++ [x]) with ⟨h1, h2⟩ | ⟨i, h0, h1, t, h2⟩
      · exact .inl ⟨by simp [h1], by simp [h2]⟩
      · refine .inr ⟨i + 1, by simpa using h0, ?_, t, by simp [h2]⟩
        have : ((i : Int) == -1) = false := by first | (simp; done) | (simp; omega)
        rw [h1, this]; simp
def cutB (c : UInt8) (s : List UInt8) : List UInt8 × List UInt8 × Bool := if 0 ≤ Go.Lib.indexByte s c then (s.take (Go.Lib.indexByte s c).toNat, s.drop ((Go.Lib.indexByte s c).toNat + 1), true) else (s, [], false)
theorem c_cut2 (s : List UInt8) (c : UInt8) (hs : s.length ≤ 1099511627776) : PC L0 Try.prog 107 [.str s, .str [c]] (.tup [.str (cutB c s).1, .str (cutB c s).2.1, .bool (cutB c s).2.2]) := by
  refine PC.intro T0_ok fo Try.func107 rfl rfl (by decide) rfl rfl (by kernel_rfl) ?_
  intro C sn A g0 F0 w0 hG
  simp
  rcases indexByte_parts c s [] with ⟨h1, _⟩ | ⟨i, h0, h1, _⟩
  · refine CallK.pureS (c_index1 _ _) (by simp) (by simp) ?_
    simp (disch := first | omega | assumption | (simp; done) | fail) [wrapi64, h1]
    simp [cutB, h1]
  · refine CallK.pureS (c_index1 _ _) (by simp) (by simp) ?_
    simp (disch := first | omega | assumption | (simp; done) | fail) [wrapi64, h1, show i ≤ s.length by omega, show (0 : Int) ≤ (i : Int) + 1 by omega, show (i : Int) + 1 ≤ s.length by omega]
    simp [cutB, h1]
theorem c_cut1 (s : List UInt8) (c : UInt8) (hs : s.length ≤ 1099511627776) : PC L0 Try.prog 85 [.str s, .str [c]] (.tup [.str (cutB c s).1, .str (cutB c s).2.1, .bool (cutB c s).2.2]) := by
  refine PC.intro T0_ok fo Try.func85 rfl rfl (by decide) rfl rfl (by kernel_rfl) ?_
  intro C sn A g0 F0 w0 hG
  simp
  refine CallK.pureS (c_cut2 s c hs) (by simp) (by simp) ?_
  simp
theorem cut_head (c : UInt8) (s : List UInt8) : (cutB c s).1 = (parts c s).headD [] := by
  unfold cutB parts
  rcases indexByte_parts c s [] with ⟨h1, h2⟩ | ⟨i, h0, h1, t, h2⟩
  · rw [h1, h2]; simp
  · rw [h1, h2]; simp
theorem head_len (c : UInt8) (s : List UInt8) : ((parts c s).headD []).length ≤ s.length := by
  rw [← cut_head]
  unfold cutB
  split <;> (simp; try omega)
def tagIn (s : List UInt8) : List UInt8 := if tagOk ((parts 32 s).headD []) then (parts 32 s).headD [] else [42]
/-- spec.TagIn -/
theorem c_sTagIn (s : List UInt8) (hs : s.length ≤ 1099511627) : PC L0 Try.prog 63 [.str s] (.str (tagIn s)) := by
  refine PC.intro T0_ok fo Try.func63 rfl rfl (by decide) rfl rfl (by kernel_rfl) ?_
  intro C sn A g0 F0 w0 hG
  simp
  have hp := partsA_pos 32 s []
  rw [← parts] at hp
  have partsX := head_len 32 s
  have hc := c_sParts s 32 hs
  rw [tagIn]
  generalize parts 32 s = l at *
  cases l with
  | nil => simp at hp
  | cons x l =>
    refine CallK.pure (hc) (by simp) (by simp) ?_
    simp
    refine CallK.pureS (c_sTagOk x (by simp at partsX; omega)) (by simp) (by simp) ?_
    simp
    cases ht : tagOk x <;> simp [ht]
/-- impl.TagIn -/
theorem c_iTagIn (s : List UInt8) (hs : s.length ≤ 1099511627) : PC L0 Try.prog 64 [.str s] (.str (tagIn s)) := by
  refine PC.intro T0_ok fo Try.func64 rfl rfl (by decide) rfl rfl (by kernel_rfl) ?_
  intro C sn A g0 F0 w0 hG
  simp
  have hl := head_len 32 s
  refine CallK.pureS (c_cut1 s 32 (by omega)) (by simp) (by simp) ?_
  simp
  rw [cut_head]
  refine CallK.pureS (c_iTagOk _ (by omega)) (by simp) (by simp) ?_
  simp
  rw [tagIn]
  simp
  cases ht : tagOk ((parts 32 s).head?.getD []) <;> simp [ht]

def expected (o : XOutcome) (idle : List UInt8) : XReply := ⟨o.fKind, 0, 0, 0, if o.fKind = 15 then [] else if idle ≠ [] then idle else if o.fLine = [] then [42] else tagIn o.fLine, []⟩
/-- spec.Expected -/
theorem c_sExpected (o : XOutcome) (idle : List UInt8) (hs : o.fLine.length ≤ 1099511627) (hi : idle.length ≤ 1099511627) : PC L0 Try.prog 37 [.agg o.cells, .str idle] (.agg (expected o idle).cells) := by
  refine PC.intro T0_ok fo Try.func37 rfl rfl (by decide) rfl rfl (by kernel_rfl) ?_
  intro C sn A g0 F0 w0 hG
  by_cases h1 : o.fKind = 15
  · simp [h1, expected]
  · by_cases h2 : idle = []
    · by_cases h3 : o.fLine = []
      · simp [h1, h2, h3, expected]
      · simp [h1, h2, h3, expected]
        refine CallK.pureS (c_sTagIn _ hs) (by simp) (by simp) ?_
        simp
    · simp [h1, h2, expected]
/-- impl.Expected -/
theorem c_iExpected (o : XOutcome) (idle : List UInt8) (hs : o.fLine.length ≤ 1099511627) (hi : idle.length ≤ 1099511627) : PC L0 Try.prog 39 [.agg o.cells, .str idle] (.agg (expected o idle).cells) := by
  refine PC.intro T0_ok fo Try.func39 rfl rfl (by decide) rfl rfl (by kernel_rfl) ?_
  intro C sn A g0 F0 w0 hG
  by_cases h1 : o.fKind = 15
  · simp [h1, expected]
  · by_cases h2 : idle = []
    · by_cases h3 : o.fLine = []
      · simp [h1, h2, h3, expected]
      · simp [h1, h2, h3, expected]
        refine CallK.pureS (c_iTagIn _ hs) (by simp) (by simp) ?_
        simp
    · simp [h1, h2, expected]
end Go.Proofs.YtjldkpggcjolcaaT
