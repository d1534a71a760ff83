/- What the laws' own functions compute: copies, sizes, equality, marks. Conditions: the lengths that each theorem names. -/
import Derived.Test.YtjldkpggcjolcaaTy
import Derived.Test.YtjldkpggcjolcaaD
namespace Go.Proofs.YtjldkpggcjolcaaT
open Go Go.Proofs Go.Proofs.YtjldkpggcjolcaaV
set_option maxRecDepth 100000
set_option linter.unusedSimpArgs false
set_option linter.unusedVariables false
/-- laws.markText -/
theorem c_markText (k : Int) (h1 : k ≤ 9223372036854775807) : PC L0 Try.prog 55 [.int .i64 k] (.str (mtext k)) := by
  refine PC.intro T0_ok fo Try.func55 rfl rfl (by decide) rfl rfl (by kernel_rfl) ?_
  intro C sn A g0 F0 w0 hG
  simp
  refine gw.mk (fun h => by simp [mtext, h]) (fun h => ?_)
  obtain ⟨n, rfl⟩ : ∃ n : Nat, k = n := ⟨k.toNat, by omega⟩
  refine LoopK.rounds T0_ok fo (ι := {p : Nat × List UInt8 // dig1 p.1 ++ p.2 = dig1 n ∧ p.1 ≤ n}) (fun p => ⟨[(0, .int .i64 p.1.1), (3, .str p.1.2)], [.frame sn A]⟩) (fun p => p.1.1) ⟨(n, []), by simp⟩ (fun _ => rfl) (by simp) ?_
  rintro ⟨⟨m, s⟩, hd, hm⟩
  simp only at hd hm
  have hl : s.length ≤ 19 := by
    have := dig1_len 19 n (by omega)
    rw [← hd] at this
    simp at this; omega
  have e1 : (m : Int).tmod 10 = ((m % 10 : Nat) : Int) := by rw [Int.tmod_eq_emod_of_nonneg (by omega)]; simp
  simp (disch := omega) [e1, wrapi64, wrapu8]
  refine gw.mk (fun h0 => ?_) (fun h0 => ?_)
  · refine ⟨by simp; omega, m / 10, _, ⟨by simp, rfl⟩, ⟨?_, by omega⟩, by omega⟩
    rw [dig1, if_neg (by omega)] at hd
    rw [← hd, show (48 + (m : Int) % 10).toNat = 48 + m % 10 from by omega]
    simp
  · obtain rfl : m = 0 := by omega
    rw [dig1, if_pos rfl] at hd
    rw [mtext, if_neg (by omega)]
    exact ⟨by omega, by simpa using hd⟩

/-- laws.eqStringS -/
theorem c_eqStringS (l : List (List UInt8)) (hl : l.length ≤ 274877906944) : PC L0 Try.prog 26 [(.sl none 1 (l.map strRow)), (.sl none 1 (l.map strRow))] (.bool true) := by
  refine PC.intro T0_ok fo Try.func26 rfl rfl (by decide) rfl rfl (by kernel_rfl) ?_
  intro C sn A g0 F0 w0 hG
  simp
  refine LoopK.list T0_ok fo l (fun pre (_ : Unit) => ⟨[(0, .sl none 1 (l.map strRow)), (1, .sl none 1 (l.map strRow)), (5, .int .i64 pre.length)], [.frame sn A]⟩) (fun _ _ _ => True) () (fun _ _ => rfl) (by simp) trivial ?_ ?_
  · rintro pre r suf _ rfl _
    simp at hl
    simp (disch := first | omega | assumption | (simp; done) | fail) [wrapi64]
  · simp

/-- laws.markStringS -/
theorem c_markStringS {C : Cx} {roots : List Root} {k g : Nat} {own : Bool} (l : List (List UInt8)) (a : Int) (hl : l.length ≤ 140737488355328) (ha : 0 ≤ a ∧ a ≤ 1000000000000) (hk : roots[k]? = some (.arr g own 1 (l.map strRow))) (h1 : heapRefs roots.length roots = true)
    {K : VV → List Root → Prop} (hK : K (.int .i64 (a + 1 * l.length)) (roots.set k (.arr g own 1 (markL markRString 1 l.length a)))) : VCall L0 Try.prog C 27 [.rs k g 0 l.length, .int .i64 a] roots K := by
  refine VCall.inline T0_ok fo Try.func27 rfl rfl (by decide) rfl rfl (by kernel_rfl) ?_
  intro g0 F0 w0 hG
  simp
  have hlt := lt_get hk
  refine LoopK.list T0_ok fo l (fun pre suf => ⟨[(0, .rs k g 0 l.length), (1, .int .i64 (a + 1 * pre.length)), (5, .int .i64 pre.length)], roots.set k (.arr g own 1 (markL markRString 1 pre.length a ++ suf.map strRow))⟩) (fun _ suf b => b = suf) l (fun _ _ => by simp) (by simp [markL, h1, set_same hk, hlt]) rfl ?_ ?_
  · rintro pre r suf b rfl rfl
    simp at hl hk
    simp (disch := first | omega | assumption | (simp; done) | fail) [wrapi64, get_set hk, hlt]
    refine CallK.pureS (c_markText _ (by omega)) (by simp) (by simp) ?_
    simp (disch := first | omega | assumption | (simp; done) | fail) [wrapi64, get_set hk, hlt, markL, markRString, h1]
    first | omega | skip
  · rintro _ rfl
    simp [get_set hk, hlt]
    simpa using hK

/-- laws.heldStringS -/
theorem c_heldStringS (n : Nat) (a : Int) (hl : n ≤ 140737488355328) (ha : 0 ≤ a ∧ a ≤ 1000000000000) : PC L0 Try.prog 28 [.sl none 1 (markL markRString 1 n a), .int .i64 a] (.int .i64 (a + 1 * n)) := by
  refine PC.intro T0_ok fo Try.func28 rfl rfl (by decide) rfl rfl (by kernel_rfl) ?_
  intro C sn A g0 F0 w0 hG
  simp
  refine LoopK.rounds T0_ok fo (ι := {i : Nat // i ≤ n}) (fun i => ⟨[(0, .sl none 1 (markL markRString 1 n a)), (1, .int .i64 (a + 1 * i.1)), (5, .int .i64 i.1)], [.frame sn A]⟩) (fun i => n - i.1) ⟨0, by simp⟩ (fun _ => rfl) (by simp) ?_
  rintro ⟨i, hi⟩
  by_cases h : i < n
  · simp (disch := first | omega | assumption | (simp; done) | fail) [wrapi64, markL_get, h, markRString]
    refine QCallK.pureS (c_markText _ (by omega)) (by simp) (.str _) (by simp) ?_
    simp (disch := first | omega | assumption | (simp; done) | fail) [wrapi64, markL_get, h, markRString]
    exact ⟨i + 1, ⟨by omega, by omega⟩, by omega, by omega⟩
  · simp [h]
    omega

/-- laws.szReply -/
theorem c_szReply (x : XReply) (n : Int) (hn : 0 ≤ n) (hm : n ≤ 1048576) (hr : x.Ok) : PC L0 Try.prog 51 [.agg x.cells, .int .i64 n] (.int .i64 (szRReply x n)) := by
  refine PC.intro T0_ok fo Try.func51 rfl rfl (by decide) rfl rfl (by kernel_rfl) ?_
  intro C sn A g0 F0 w0 hG
  have h0 := hr.fName
  have h1 := hr.fText
  simp
  unfold szRReply
  rw [wrapi64 (by omega) (by omega), szF]
  refine gw.mk (fun h => by rw [if_pos (by omega)]) (fun h => ?_)
  rw [if_neg (by omega)]
  rw [wrapi64 (by omega) (by omega), szF]
  refine gw.mk (fun h => by rw [if_pos (by omega)]) (fun h => ?_)
  rw [if_neg (by omega)]
  rfl

/-- laws.szReplyS -/
theorem c_szReplyS (l : List (XReply)) (n : Int) (hn : 0 ≤ n) (hm : n ≤ 1048576) (hl : l.length ≤ 9223372036854775807) (hr : ∀ r ∈ l, r.Ok) : PC L0 Try.prog 12 [(.sl none 6 (l.map XReply.cells)), .int .i64 n] (.int .i64 (szS szRReply l n)) := by
  refine PC.intro T0_ok fo Try.func12 rfl rfl (by decide) rfl rfl (by kernel_rfl) ?_
  intro C sn A g0 F0 w0 hG
  simp
  rw [wrapi64 (by omega) (by omega)]
  unfold szS
  refine gw.mk (fun h => by rw [if_pos (by omega)]) (fun h => ?_)
  rw [if_neg (by omega)]
  refine LoopK.list T0_ok fo l (fun pre m => ⟨[(0, .sl none 6 (l.map XReply.cells)), (1, .int .i64 m), (5, .int .i64 pre.length)], [.frame sn A]⟩) (fun pre suf m => 0 ≤ m ∧ m ≤ 1048576 ∧ szL szRReply suf m = szL szRReply l (n - l.length)) (n - l.length) (fun _ _ => rfl) (by simp) ⟨by omega, by omega, rfl⟩ ?_ ?_
  · rintro pre r suf m rfl ⟨hm0, hm1, hf⟩
    simp at hl
    simp
    refine CallK.pure (c_szReply r m hm0 hm1 (hr r (by simp))) (by simp) (by simp) ?_
    simp
    have := szRReply_le r m hm0
    rw [szL] at hf
    simp (disch := first | omega | assumption | (simp; done) | fail) [wrapi64]
    refine gw.mk (fun hx => by rw [if_pos hx] at hf; simpa using hf) (fun hx => ?_)
    rw [if_neg (by omega)] at hf
    exact ⟨by omega, by omega, by simpa using hf⟩
  · rintro m ⟨hm0, hm1, hf⟩
    simpa [szL] using hf

/-- laws.toReply -/
theorem c_toReply (r : XReply) : PC L0 Try.prog 52 [.agg r.cells] (.agg r.cells) := by
  refine PC.intro T0_ok fo Try.func52 rfl rfl (by decide) rfl rfl (by kernel_rfl) ?_
  intro C sn A g0 F0 w0 hG
  simp

/-- laws.toReplyS -/
theorem c_toReplyS (l : List (XReply)) (hl : l.length ≤ 274877906944) : PC L0 Try.prog 14 [(.sl none 6 (l.map XReply.cells))] (.tr 6 (l.map XReply.cells)) := by
  refine PC.intro T0_ok fo Try.func14 rfl rfl (by decide) rfl rfl (by kernel_rfl) ?_
  intro C sn A g0 F0 w0 hG
  simp
  refine ⟨by omega, ?_⟩
  refine LoopK.list T0_ok fo l (fun pre (_ : Unit) => ⟨[(0, .sl none 6 (l.map XReply.cells)), (3, .rs 1 0 0 l.length), (4, .int .i64 pre.length)], [.frame sn A, .arr 0 true 6 (fillUp (pre.map XReply.cells) [.int .i64 0, .int .i64 0, .int .i64 0, .int .i64 0, .str [], .str []] l.length)]⟩) (fun _ _ _ => True) () (fun _ _ => rfl) (by simp) trivial ?_ ?_
  · rintro pre r suf _ rfl _
    simp at hl
    simp
    refine CallK.pure (c_toReply r) (by simp) (by simp) ?_
    simp (disch := first | omega | assumption | (simp; done) | fail) [wrapi64]
  · simp

/-- laws.eqReply -/
theorem c_eqReply (r : XReply) : PC L0 Try.prog 40 [.agg r.cells, .agg r.cells] (.bool true) := by
  refine PC.intro T0_ok fo Try.func40 rfl rfl (by decide) rfl rfl (by kernel_rfl) ?_
  intro C sn A g0 F0 w0 hG
  simp

/-- laws.eqReplyS -/
theorem c_eqReplyS (l : List (XReply)) (hl : l.length ≤ 274877906944) : PC L0 Try.prog 16 [(.sl none 6 (l.map XReply.cells)), (.sl none 6 (l.map XReply.cells))] (.bool true) := by
  refine PC.intro T0_ok fo Try.func16 rfl rfl (by decide) rfl rfl (by kernel_rfl) ?_
  intro C sn A g0 F0 w0 hG
  simp
  refine LoopK.list T0_ok fo l (fun pre (_ : Unit) => ⟨[(0, .sl none 6 (l.map XReply.cells)), (1, .sl none 6 (l.map XReply.cells)), (5, .int .i64 pre.length)], [.frame sn A]⟩) (fun _ _ _ => True) () (fun _ _ => rfl) (by simp) trivial ?_ ?_
  · rintro pre r suf _ rfl _
    simp at hl
    simp
    refine QCallK.pure (c_eqReply r) (by simp) (.bool true) (by simp) ?_
    simp (disch := first | omega | assumption | (simp; done) | fail) [wrapi64]
  · simp

/-- laws.markReplyS -/
theorem c_markReplyS {C : Cx} {roots : List Root} {k g : Nat} {own : Bool} (l : List (XReply)) (a : Int) (hl : l.length ≤ 140737488355328) (ha : 0 ≤ a ∧ a ≤ 1000000000000) (hk : roots[k]? = some (.arr g own 6 (l.map XReply.cells))) (h1 : heapRefs roots.length roots = true)
    {K : VV → List Root → Prop} (hK : K (.int .i64 (a + 6 * l.length)) (roots.set k (.arr g own 6 (markL markRReply 6 l.length a)))) : VCall L0 Try.prog C 31 [.rs k g 0 l.length, .int .i64 a] roots K := by
  refine VCall.inline T0_ok fo Try.func31 rfl rfl (by decide) rfl rfl (by kernel_rfl) ?_
  intro g0 F0 w0 hG
  simp
  have hlt := lt_get hk
  refine LoopK.list T0_ok fo l (fun pre suf => ⟨[(0, .rs k g 0 l.length), (1, .int .i64 (a + 6 * pre.length)), (5, .int .i64 pre.length)], roots.set k (.arr g own 6 (markL markRReply 6 pre.length a ++ suf.map XReply.cells))⟩) (fun _ suf b => b = suf) l (fun _ _ => by simp) (by simp [markL, h1, set_same hk, hlt]) rfl ?_ ?_
  · rintro pre r suf b rfl rfl
    simp at hl hk
    simp (disch := first | omega | assumption | (simp; done) | fail) [wrapi64, get_set hk, hlt]
    refine CallK.pureS (c_markText _ (by omega)) (by simp) (by simp) ?_
    simp (disch := first | omega | assumption | (simp; done) | fail) [wrapi64, get_set hk, hlt, markL, markRReply, h1]
    refine CallK.pureS (c_markText _ (by omega)) (by simp) (by simp) ?_
    simp (disch := first | omega | assumption | (simp; done) | fail) [wrapi64, get_set hk, hlt, markL, markRReply, h1]
    first | omega | skip
  · rintro _ rfl
    simp [get_set hk, hlt]
    simpa using hK

/-- laws.heldReplyS -/
theorem c_heldReplyS (n : Nat) (a : Int) (hl : n ≤ 140737488355328) (ha : 0 ≤ a ∧ a ≤ 1000000000000) : PC L0 Try.prog 32 [.sl none 6 (markL markRReply 6 n a), .int .i64 a] (.int .i64 (a + 6 * n)) := by
  refine PC.intro T0_ok fo Try.func32 rfl rfl (by decide) rfl rfl (by kernel_rfl) ?_
  intro C sn A g0 F0 w0 hG
  simp
  refine LoopK.rounds T0_ok fo (ι := {i : Nat // i ≤ n}) (fun i => ⟨[(0, .sl none 6 (markL markRReply 6 n a)), (1, .int .i64 (a + 6 * i.1)), (5, .int .i64 i.1)], [.frame sn A]⟩) (fun i => n - i.1) ⟨0, by simp⟩ (fun _ => rfl) (by simp) ?_
  rintro ⟨i, hi⟩
  by_cases h : i < n
  · simp (disch := first | omega | assumption | (simp; done) | fail) [wrapi64, markL_get, h, markRReply]
    refine QCallK.pureS (c_markText _ (by omega)) (by simp) (.str _) (by simp) ?_
    simp (disch := first | omega | assumption | (simp; done) | fail) [wrapi64, markL_get, h, markRReply]
    refine QCallK.pureS (c_markText _ (by omega)) (by simp) (.str _) (by simp) ?_
    simp (disch := first | omega | assumption | (simp; done) | fail) [wrapi64, markL_get, h, markRReply]
    exact ⟨i + 1, ⟨by omega, by omega⟩, by omega, by omega⟩
  · simp [h]
    omega

/-- laws.szOutcome -/
theorem c_szOutcome (x : XOutcome) (n : Int) (hn : 0 ≤ n) (hm : n ≤ 1048576) (hr : x.Ok) : PC L0 Try.prog 36 [.agg x.cells, .int .i64 n] (.int .i64 (szROutcome x n)) := by
  refine PC.intro T0_ok fo Try.func36 rfl rfl (by decide) rfl rfl (by kernel_rfl) ?_
  intro C sn A g0 F0 w0 hG
  have h0 := hr.fLine
  simp
  unfold szROutcome
  rw [wrapi64 (by omega) (by omega), szF]
  refine gw.mk (fun h => by rw [if_pos (by omega)]) (fun h => ?_)
  rw [if_neg (by omega)]
  rfl

/-- laws.szOutcomeS -/
theorem c_szOutcomeS (l : List (XOutcome)) (n : Int) (hn : 0 ≤ n) (hm : n ≤ 1048576) (hl : l.length ≤ 9223372036854775807) (hr : ∀ r ∈ l, r.Ok) : PC L0 Try.prog 17 [(.sl none 3 (l.map XOutcome.cells)), .int .i64 n] (.int .i64 (szS szROutcome l n)) := by
  refine PC.intro T0_ok fo Try.func17 rfl rfl (by decide) rfl rfl (by kernel_rfl) ?_
  intro C sn A g0 F0 w0 hG
  simp
  rw [wrapi64 (by omega) (by omega)]
  unfold szS
  refine gw.mk (fun h => by rw [if_pos (by omega)]) (fun h => ?_)
  rw [if_neg (by omega)]
  refine LoopK.list T0_ok fo l (fun pre m => ⟨[(0, .sl none 3 (l.map XOutcome.cells)), (1, .int .i64 m), (5, .int .i64 pre.length)], [.frame sn A]⟩) (fun pre suf m => 0 ≤ m ∧ m ≤ 1048576 ∧ szL szROutcome suf m = szL szROutcome l (n - l.length)) (n - l.length) (fun _ _ => rfl) (by simp) ⟨by omega, by omega, rfl⟩ ?_ ?_
  · rintro pre r suf m rfl ⟨hm0, hm1, hf⟩
    simp at hl
    simp
    refine CallK.pure (c_szOutcome r m hm0 hm1 (hr r (by simp))) (by simp) (by simp) ?_
    simp
    have := szROutcome_le r m hm0
    rw [szL] at hf
    simp (disch := first | omega | assumption | (simp; done) | fail) [wrapi64]
    refine gw.mk (fun hx => by rw [if_pos hx] at hf; simpa using hf) (fun hx => ?_)
    rw [if_neg (by omega)] at hf
    exact ⟨by omega, by omega, by simpa using hf⟩
  · rintro m ⟨hm0, hm1, hf⟩
    simpa [szL] using hf

/-- laws.toOutcome -/
theorem c_toOutcome (r : XOutcome) : PC L0 Try.prog 38 [.agg r.cells] (.agg r.cells) := by
  refine PC.intro T0_ok fo Try.func38 rfl rfl (by decide) rfl rfl (by kernel_rfl) ?_
  intro C sn A g0 F0 w0 hG
  simp

/-- laws.toOutcomeS -/
theorem c_toOutcomeS (l : List (XOutcome)) (hl : l.length ≤ 274877906944) : PC L0 Try.prog 19 [(.sl none 3 (l.map XOutcome.cells))] (.tr 3 (l.map XOutcome.cells)) := by
  refine PC.intro T0_ok fo Try.func19 rfl rfl (by decide) rfl rfl (by kernel_rfl) ?_
  intro C sn A g0 F0 w0 hG
  simp
  refine ⟨by omega, ?_⟩
  refine LoopK.list T0_ok fo l (fun pre (_ : Unit) => ⟨[(0, .sl none 3 (l.map XOutcome.cells)), (3, .rs 1 0 0 l.length), (4, .int .i64 pre.length)], [.frame sn A, .arr 0 true 3 (fillUp (pre.map XOutcome.cells) [.int .i64 0, .str [], .int .i64 0] l.length)]⟩) (fun _ _ _ => True) () (fun _ _ => rfl) (by simp) trivial ?_ ?_
  · rintro pre r suf _ rfl _
    simp at hl
    simp
    refine CallK.pure (c_toOutcome r) (by simp) (by simp) ?_
    simp (disch := first | omega | assumption | (simp; done) | fail) [wrapi64]
  · simp

/-- laws.eqOutcome -/
theorem c_eqOutcome (r : XOutcome) : PC L0 Try.prog 54 [.agg r.cells, .agg r.cells] (.bool true) := by
  refine PC.intro T0_ok fo Try.func54 rfl rfl (by decide) rfl rfl (by kernel_rfl) ?_
  intro C sn A g0 F0 w0 hG
  simp

/-- laws.eqOutcomeS -/
theorem c_eqOutcomeS (l : List (XOutcome)) (hl : l.length ≤ 274877906944) : PC L0 Try.prog 21 [(.sl none 3 (l.map XOutcome.cells)), (.sl none 3 (l.map XOutcome.cells))] (.bool true) := by
  refine PC.intro T0_ok fo Try.func21 rfl rfl (by decide) rfl rfl (by kernel_rfl) ?_
  intro C sn A g0 F0 w0 hG
  simp
  refine LoopK.list T0_ok fo l (fun pre (_ : Unit) => ⟨[(0, .sl none 3 (l.map XOutcome.cells)), (1, .sl none 3 (l.map XOutcome.cells)), (5, .int .i64 pre.length)], [.frame sn A]⟩) (fun _ _ _ => True) () (fun _ _ => rfl) (by simp) trivial ?_ ?_
  · rintro pre r suf _ rfl _
    simp at hl
    simp
    refine QCallK.pure (c_eqOutcome r) (by simp) (.bool true) (by simp) ?_
    simp (disch := first | omega | assumption | (simp; done) | fail) [wrapi64]
  · simp

/-- laws.markOutcomeS -/
theorem c_markOutcomeS {C : Cx} {roots : List Root} {k g : Nat} {own : Bool} (l : List (XOutcome)) (a : Int) (hl : l.length ≤ 140737488355328) (ha : 0 ≤ a ∧ a ≤ 1000000000000) (hk : roots[k]? = some (.arr g own 3 (l.map XOutcome.cells))) (h1 : heapRefs roots.length roots = true)
    {K : VV → List Root → Prop} (hK : K (.int .i64 (a + 3 * l.length)) (roots.set k (.arr g own 3 (markL markROutcome 3 l.length a)))) : VCall L0 Try.prog C 22 [.rs k g 0 l.length, .int .i64 a] roots K := by
  refine VCall.inline T0_ok fo Try.func22 rfl rfl (by decide) rfl rfl (by kernel_rfl) ?_
  intro g0 F0 w0 hG
  simp
  have hlt := lt_get hk
  refine LoopK.list T0_ok fo l (fun pre suf => ⟨[(0, .rs k g 0 l.length), (1, .int .i64 (a + 3 * pre.length)), (5, .int .i64 pre.length)], roots.set k (.arr g own 3 (markL markROutcome 3 pre.length a ++ suf.map XOutcome.cells))⟩) (fun _ suf b => b = suf) l (fun _ _ => by simp) (by simp [markL, h1, set_same hk, hlt]) rfl ?_ ?_
  · rintro pre r suf b rfl rfl
    simp at hl hk
    simp (disch := first | omega | assumption | (simp; done) | fail) [wrapi64, get_set hk, hlt]
    refine CallK.pureS (c_markText _ (by omega)) (by simp) (by simp) ?_
    simp (disch := first | omega | assumption | (simp; done) | fail) [wrapi64, get_set hk, hlt, markL, markROutcome, h1]
    first | omega | skip
  · rintro _ rfl
    simp [get_set hk, hlt]
    simpa using hK

/-- laws.heldOutcomeS -/
theorem c_heldOutcomeS (n : Nat) (a : Int) (hl : n ≤ 140737488355328) (ha : 0 ≤ a ∧ a ≤ 1000000000000) : PC L0 Try.prog 23 [.sl none 3 (markL markROutcome 3 n a), .int .i64 a] (.int .i64 (a + 3 * n)) := by
  refine PC.intro T0_ok fo Try.func23 rfl rfl (by decide) rfl rfl (by kernel_rfl) ?_
  intro C sn A g0 F0 w0 hG
  simp
  refine LoopK.rounds T0_ok fo (ι := {i : Nat // i ≤ n}) (fun i => ⟨[(0, .sl none 3 (markL markROutcome 3 n a)), (1, .int .i64 (a + 3 * i.1)), (5, .int .i64 i.1)], [.frame sn A]⟩) (fun i => n - i.1) ⟨0, by simp⟩ (fun _ => rfl) (by simp) ?_
  rintro ⟨i, hi⟩
  by_cases h : i < n
  · simp (disch := first | omega | assumption | (simp; done) | fail) [wrapi64, markL_get, h, markROutcome]
    refine QCallK.pureS (c_markText _ (by omega)) (by simp) (.str _) (by simp) ?_
    simp (disch := first | omega | assumption | (simp; done) | fail) [wrapi64, markL_get, h, markROutcome]
    exact ⟨i + 1, ⟨by omega, by omega⟩, by omega, by omega⟩
  · simp [h]
    omega
end Go.Proofs.YtjldkpggcjolcaaT
