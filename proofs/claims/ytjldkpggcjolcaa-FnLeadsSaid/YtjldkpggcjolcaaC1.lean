/- Expected replies. Conditions: the lengths that each theorem names. -/
import Derived.Test.YtjldkpggcjolcaaB1
namespace Go.Proofs.YtjldkpggcjolcaaT
open Go Go.Proofs Go.Proofs.YtjldkpggcjolcaaV
set_option maxRecDepth 100000
set_option linter.unusedSimpArgs false
set_option linter.unusedVariables false

def expectedAll (idle : List UInt8) : List XOutcome → List XReply
  | [] => []
  | o :: r => expected o idle :: expectedAll (if o.fKind = 15 then tagIn o.fLine else []) r
theorem tagIn_len (s : List UInt8) (h : s.length ≤ 1099511627) : (tagIn s).length ≤ 1099511627 := by
  have := head_len 32 s
  unfold tagIn
  split
  · omega
  · simp
/-- spec.ExpectedAll -/
theorem c_sExpectedAll (l : List XOutcome) (hl : l.length ≤ 274877906944) (hr : ∀ o ∈ l, o.fLine.length ≤ 1099511627) : PC L0 Try.prog 41 [.sl none 3 (l.map XOutcome.cells)] (.tr 6 ((expectedAll [] l).map XReply.cells)) := by
  refine PC.intro T0_ok fo Try.func41 rfl rfl (by decide) rfl rfl (by kernel_rfl) ?_
  intro C sn A g0 F0 w0 hG
  simp
  refine LoopK.list T0_ok fo l (fun pre p => ⟨[(0, .sl none 3 (l.map XOutcome.cells)), (3, .rs 1 p.1 0 p.2.1.length), (4, .str p.2.2), (5, .int .i64 pre.length)], [.frame sn A, .arr p.1 true 6 (p.2.1.map XReply.cells)]⟩) (fun pre suf p => p.2.1.length = pre.length ∧ p.2.2.length ≤ 1099511627 ∧ p.2.1 ++ expectedAll p.2.2 suf = expectedAll [] l) (0, [], []) (fun _ _ => rfl) (by simp) (by simp) ?_ ?_
  · rintro pre r suf ⟨g, O, idle⟩ rfl ⟨h1, h2, h3⟩
    simp at hl h1 h2 h3
    have hrr := hr r (by simp)
    have ht := tagIn_len r.fLine hrr
    rw [expectedAll] at h3
    by_cases hk : r.fKind = 15
    · simp (disch := first | omega | assumption | (simp; done) | fail) [wrapi64]
      refine CallK.pure (c_sExpected r idle hrr h2) (by simp) (by simp) ?_
      simp (disch := first | omega | assumption | (simp; done) | fail) [wrapi64, hk]
      refine ⟨by omega, ?_⟩
      refine CallK.pureS (c_sTagIn r.fLine hrr) (by simp) (by simp) ?_
      simp (disch := first | omega | assumption | (simp; done) | fail) [wrapi64, hk]
      exact ⟨_, O ++ [expected r idle], _, ⟨⟨⟨rfl, by simp⟩, rfl⟩, rfl, by simp [hk]⟩, by simp; omega, ht, by simpa [hk] using h3⟩
    · simp (disch := first | omega | assumption | (simp; done) | fail) [wrapi64]
      refine CallK.pure (c_sExpected r idle hrr h2) (by simp) (by simp) ?_
      simp (disch := first | omega | assumption | (simp; done) | fail) [wrapi64, hk]
      refine ⟨by omega, ?_⟩
      exact ⟨_, O ++ [expected r idle], _, ⟨⟨⟨rfl, by simp⟩, rfl⟩, rfl, by simp⟩, by simp; omega, by simp, by simpa [hk] using h3⟩
  · rintro ⟨g, O, idle⟩ ⟨h1, h2, h3⟩
    simp [expectedAll] at h3
    simp [h3]
/-- impl.ExpectedAll -/
theorem c_iExpectedAll (l : List XOutcome) (hl : l.length ≤ 274877906944) (hr : ∀ o ∈ l, o.fLine.length ≤ 1099511627) : PC L0 Try.prog 42 [.sl none 3 (l.map XOutcome.cells)] (.tr 6 ((expectedAll [] l).map XReply.cells)) := by
  refine PC.intro T0_ok fo Try.func42 rfl rfl (by decide) rfl rfl (by kernel_rfl) ?_
  intro C sn A g0 F0 w0 hG
  simp
  refine LoopK.list T0_ok fo l (fun pre p => ⟨[(0, .sl none 3 (l.map XOutcome.cells)), (3, .rs 1 p.1 0 p.2.1.length), (4, .str p.2.2), (8, .sl none 3 (l.map XOutcome.cells)), (9, .int .i64 l.length), (10, .int .i64 pre.length)], [.frame sn A, .arr p.1 true 6 (p.2.1.map XReply.cells)]⟩) (fun pre suf p => p.2.1.length = pre.length ∧ p.2.2.length ≤ 1099511627 ∧ p.2.1 ++ expectedAll p.2.2 suf = expectedAll [] l) (0, [], []) (fun _ _ => rfl) (by simp) (by simp) ?_ ?_
  · rintro pre r suf ⟨g, O, idle⟩ rfl ⟨h1, h2, h3⟩
    simp at hl h1 h2 h3
    have hrr := hr r (by simp)
    have ht := tagIn_len r.fLine hrr
    rw [expectedAll] at h3
    by_cases hk : r.fKind = 15
    · simp (disch := first | omega | assumption | (simp; done) | fail) [wrapi64]
      refine CallK.pure (c_iExpected r idle hrr h2) (by simp) (by simp) ?_
      simp (disch := first | omega | assumption | (simp; done) | fail) [wrapi64, hk]
      refine ⟨by omega, ?_⟩
      refine CallK.pureS (c_iTagIn r.fLine hrr) (by simp) (by simp) ?_
      simp (disch := first | omega | assumption | (simp; done) | fail) [wrapi64, hk]
      exact ⟨_, O ++ [expected r idle], _, ⟨⟨⟨rfl, by simp⟩, rfl⟩, rfl, by simp [hk]⟩, by simp; omega, ht, by simpa [hk] using h3⟩
    · simp (disch := first | omega | assumption | (simp; done) | fail) [wrapi64]
      refine CallK.pure (c_iExpected r idle hrr h2) (by simp) (by simp) ?_
      simp (disch := first | omega | assumption | (simp; done) | fail) [wrapi64, hk]
      refine ⟨by omega, ?_⟩
      exact ⟨_, O ++ [expected r idle], _, ⟨⟨⟨rfl, by simp⟩, rfl⟩, rfl, by simp⟩, by simp; omega, by simp, by simpa [hk] using h3⟩
  · rintro ⟨g, O, idle⟩ ⟨h1, h2, h3⟩
    simp [expectedAll] at h3
    simp [h3]
theorem expectedAll_len : ∀ (l : List XOutcome) (idle : List UInt8), (expectedAll idle l).length = l.length
  | [], _ => rfl
  | o :: r, idle => by simp [expectedAll, expectedAll_len r]
theorem szO_line : ∀ (l : List XOutcome) (n : Int), ¬ szL szROutcome l n < 0 → n ≤ 1048576 → ∀ o ∈ l, o.fLine.length ≤ 1099511627
  | [], _, _, _ => by simp
  | x :: l, n, h, hn => by
    rw [szL] at h
    split at h
    · omega
    · rename_i hx
      have hx' := hx
      unfold szROutcome szF szF at hx'
      split at hx'
      · omega
      · rename_i hy
        intro o ho
        rcases List.mem_cons.1 ho with rfl | ho
        · omega
        · refine szO_line l (szROutcome x n) h ?_ o ho
          unfold szROutcome szF szF
          split <;> omega

/-- laws.FnExactExpected -/
theorem c_FnExactExpected (o : XOutcome) (idle : List UInt8) (ho : o.Ok) (hi : idle.length ≤ 9223372036854775807) : PC L0 Try.prog 8 [.agg o.cells, .str idle] (.bool true) := by
  refine PC.intro T0_ok fo Try.func8 rfl rfl (by decide) rfl rfl (by kernel_rfl) ?_
  intro C sn A g0 F0 w0 hG
  simp
  refine fun hid => ?_
  refine CallK.pure (c_szOutcome o 1048576 (by omega) (by omega) ho) (by simp) (by simp) ?_
  simp
  intro hs
  have hl : o.fLine.length ≤ 1099511627 := by
    unfold szROutcome szF szF at hs
    split at hs <;> omega
  refine CallK.pure (c_toOutcome o) (by simp) (by simp) ?_
  simp
  refine CallK.pure (c_sExpected o idle hl (by omega)) (by simp) (by simp) ?_
  simp
  refine CallK.pure (c_toOutcome o) (by simp) (by simp) ?_
  simp
  refine CallK.pure (c_iExpected o idle hl (by omega)) (by simp) (by simp) ?_
  simp
  refine CallK.pure (c_eqReply (expected o idle)) (by simp) (by simp) ?_
  simp

/-- laws.FnExactExpectedAll -/
theorem c_FnExactExpectedAll (l : List XOutcome) (hl : l.length ≤ 9223372036854775807) (hr : ∀ r ∈ l, r.Ok) : PC L0 Try.prog 9 [.sl none 3 (l.map XOutcome.cells)] (.bool true) := by
  refine PC.intro T0_ok fo Try.func9 rfl rfl (by decide) rfl rfl (by kernel_rfl) ?_
  intro C sn A g0 F0 w0 hG
  simp
  refine CallK.pure (c_szOutcomeS l 1048576 (by omega) (by omega) hl hr) (by simp) (by simp) ?_
  simp
  intro hs
  have hle := szS_len (by omega : ¬ szS szROutcome l 1048576 < 0)
  have hll : ∀ o ∈ l, o.fLine.length ≤ 1099511627 := by
    have hs' : ¬ szS szROutcome l 1048576 < 0 := by omega
    unfold szS at hs'
    split at hs'
    · omega
    · exact szO_line l _ hs' (by omega)
  have c1 := c_sExpectedAll l (by omega) hll
  have c2 := c_iExpectedAll l (by omega) hll
  have hfl := expectedAll_len l []
  generalize hm : expectedAll [] l = m
  rw [hm] at c1 c2 hfl
  have h1 : ¬ (1 + 3 * (l.length : Int) < 0) := by omega
  have h2 : ¬ (1 + 6 * (m.length : Int) < 0) := by omega
  refine CallK.pure (c_toOutcomeS l (by omega)) (by simp) (by simp) ?_
  simp
  refine CallK.pure (c1) (by simp) (by simp) ?_
  simp
  refine CallK.pure (c_toOutcomeS l (by omega)) (by simp) (by simp) ?_
  simp
  refine CallK.pure (c2) (by simp) (by simp) ?_
  simp
  refine CallK.pure (c_eqReplyS m (by omega)) (by simp) (by simp) ?_
  simp
  refine CallK.pure (c_toOutcomeS l (by omega)) (by simp) (by simp) ?_
  simp
  refine CallK.pure (c_eqOutcomeS l (by omega)) (by simp) (by simp) ?_
  simp
  refine CallK.mk (c_markOutcomeS l _ (by omega) (by omega) rfl (by simp) ?_)
  simp [h1]
  refine CallK.pure (c_eqReplyS m (by omega)) (by simp) (by simp) ?_
  simp
  refine CallK.mk (c_markReplyS m _ (by omega) (by omega) rfl (by simp) ?_)
  simp
  refine CallK.pure (c_heldReplyS m.length 1 (by omega) (by omega)) (by simp) (by simp) ?_
  simp (disch := first | omega | assumption | (simp; done) | fail) [wrapi64, h2]
  refine CallK.pure (c_toOutcomeS l (by omega)) (by simp) (by simp) ?_
  simp
  refine CallK.pure (c2) (by simp) (by simp) ?_
  simp
  refine CallK.pure (c_eqReplyS m (by omega)) (by simp) (by simp) ?_
  simp
  refine CallK.pure (c_heldReplyS m.length 1 (by omega) (by omega)) (by simp) (by simp) ?_
  simp (disch := first | omega | assumption | (simp; done) | fail) [wrapi64, h2]
end Go.Proofs.YtjldkpggcjolcaaT
