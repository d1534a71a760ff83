/- Functions over replies and outcomes. Conditions: the lengths that each theorem names. -/
import Derived.Test.YtjldkpggcjolcaaL
namespace Go.Proofs.YtjldkpggcjolcaaT
open Go Go.Proofs Go.Proofs.YtjldkpggcjolcaaV
set_option maxRecDepth 100000
set_option linter.unusedSimpArgs false
set_option linter.unusedVariables false

theorem not_lead {α : Type} {pre suf b : List α} {r r' : α} (h : r ≠ r') : ¬ pre ++ r :: suf <+: pre ++ r' :: b := by
  rintro ⟨t, ht⟩
  simp at ht
  exact h ht.1
theorem lead_take {α : Type} {a b : List α} : (a <+: b) = (a = b.take a.length) := propext List.prefix_iff_eq_take

/-- spec.Leads -/
theorem c_sLeads (a b : List XReply) (ha : a.length ≤ 274877906944) (hb : b.length ≤ 274877906944) : PC L0 Try.prog 13 [.sl none 6 (a.map XReply.cells), .sl none 6 (b.map XReply.cells)] (.bool (decide (a <+: b))) := by
  refine PC.intro T0_ok fo Try.func13 rfl rfl (by decide) rfl rfl (by kernel_rfl) ?_
  intro C sn A g0 F0 w0 hG
  simp
  refine gw.mk (fun h hp => by have := hp.length_le; omega) (fun h => ?_)
  refine LoopK.list T0_ok fo a (fun pre (_ : Unit) => ⟨[(0, .sl none 6 (a.map XReply.cells)), (1, .sl none 6 (b.map XReply.cells)), (5, .int .i64 pre.length)], [.frame sn A]⟩) (fun pre _ _ => pre <+: b) () (fun _ _ => rfl) (by simp) (List.nil_prefix) ?_ ?_
  · rintro pre r suf _ rfl ⟨b', rfl⟩
    cases b' with
    | nil => simp at h
    | cons r' b' =>
      simp at ha
      simp (disch := first | omega | assumption | (simp; done) | fail) [wrapi64]
      by_cases e : r = r'
      · subst e; simp
      · refine gw.mk (fun _ h => (e h).elim) (fun h => ?_)
        exact (e (by simp at h; exact XReply.ext_iff.2 h)).elim
  · simp

/-- slices.Equal -/
theorem c_eqSlReply (a b : List XReply) (ha : a.length ≤ 274877906944) (hb : b.length ≤ 274877906944) : PC L0 Try.prog 53 [.sl none 6 (a.map XReply.cells), .sl none 6 (b.map XReply.cells)] (.bool (decide (a = b))) := by
  refine PC.intro T0_ok fo Try.func53 rfl rfl (by decide) rfl rfl (by kernel_rfl) ?_
  intro C sn A g0 F0 w0 hG
  simp
  refine gw.mk (fun h => ?_) (fun h => by rintro rfl; exact h rfl)
  have h : a.length = b.length := by omega
  refine LoopK.list T0_ok fo a (fun pre (_ : Unit) => ⟨[(0, .sl none 6 (a.map XReply.cells)), (1, .sl none 6 (b.map XReply.cells)), (11, .sl none 6 (a.map XReply.cells)), (12, .int .i64 a.length), (13, .int .i64 pre.length)], [.frame sn A]⟩) (fun pre _ _ => pre <+: b) () (fun _ _ => rfl) (by simp) (List.nil_prefix) ?_ ?_
  · rintro pre r suf _ rfl ⟨b', rfl⟩
    cases b' with
    | nil => simp at h
    | cons r' b' =>
      simp at ha
      simp (disch := first | omega | assumption | (simp; done) | fail) [wrapi64]
      by_cases e : r = r'
      · subst e; simp
      · refine gw.mk (fun _ h => ?_) (fun h => ?_)
        · exact (e (by simpa using h)).elim
        · exact (e (by simp at h; exact XReply.ext_iff.2 h)).elim
  · rintro _ ⟨t, rfl⟩
    simp at h
    simp [h]

/-- impl.Leads -/
theorem c_iLeads (a b : List XReply) (ha : a.length ≤ 274877906944) (hb : b.length ≤ 274877906944) : PC L0 Try.prog 15 [.sl none 6 (a.map XReply.cells), .sl none 6 (b.map XReply.cells)] (.bool (decide (a <+: b))) := by
  refine PC.intro T0_ok fo Try.func15 rfl rfl (by decide) rfl rfl (by kernel_rfl) ?_
  intro C sn A g0 F0 w0 hG
  simp +contextual
  refine gw.mk (fun h => ?_) (fun h hp => by have := hp.length_le; omega)
  refine CallK.pure (c_eqSlReply a (b.take a.length) (by omega) (by simp; omega)) (by simp) (by simp) ?_
  simp
  simp [lead_take]

/-- spec.OutcomesOf -/
theorem c_sOutcomesOf (l : List XOutcome) (x : Int) (hl : l.length ≤ 274877906944) : PC L0 Try.prog 18 [.sl none 3 (l.map XOutcome.cells), .int .i64 x] (.tr 3 ((l.filter (·.fSession = x)).map XOutcome.cells)) := by
  refine PC.intro T0_ok fo Try.func18 rfl rfl (by decide) rfl rfl (by kernel_rfl) ?_
  intro C sn A g0 F0 w0 hG
  simp
  refine LoopK.list T0_ok fo l (fun pre g => ⟨[(0, .sl none 3 (l.map XOutcome.cells)), (1, .int .i64 x), (5, .rs 1 g 0 (pre.filter (·.fSession = x)).length), (6, .int .i64 pre.length)], [.frame sn A, .arr g true 3 ((pre.filter (·.fSession = x)).map XOutcome.cells)]⟩) (fun _ _ _ => True) 0 (fun _ _ => rfl) (by simp) trivial ?_ ?_
  · rintro pre r suf g rfl _
    have hle := List.length_filter_le (fun r : XOutcome => decide (r.fSession = x)) pre
    simp at hl
    simp (disch := first | omega | assumption | (simp; done) | fail) [wrapi64, List.filter_cons]
    refine gw.mk (fun h => ?_) (fun h => ?_)
    · simp [h]; omega
    · simp [h]
  · simp

/-- impl.OutcomesOf -/
theorem c_iOutcomesOf (l : List XOutcome) (x : Int) (hl : l.length ≤ 274877906944) : PC L0 Try.prog 20 [.sl none 3 (l.map XOutcome.cells), .int .i64 x] (.tr 3 ((l.filter (·.fSession = x)).map XOutcome.cells)) := by
  refine PC.intro T0_ok fo Try.func20 rfl rfl (by decide) rfl rfl (by kernel_rfl) ?_
  intro C sn A g0 F0 w0 hG
  simp
  refine LoopK.list T0_ok fo l (fun pre g => ⟨[(0, .sl none 3 (l.map XOutcome.cells)), (1, .int .i64 x), (5, .rs 1 g 0 (pre.filter (·.fSession = x)).length), (9, .sl none 3 (l.map XOutcome.cells)), (10, .int .i64 l.length), (11, .int .i64 pre.length)], [.frame sn A, .arr g true 3 ((pre.filter (·.fSession = x)).map XOutcome.cells)]⟩) (fun _ _ _ => True) 0 (fun _ _ => rfl) (by simp) trivial ?_ ?_
  · rintro pre r suf g rfl _
    have hle := List.length_filter_le (fun r : XOutcome => decide (r.fSession = x)) pre
    simp at hl
    simp (disch := first | omega | assumption | (simp; done) | fail) [wrapi64, List.filter_cons]
    refine gw.mk (fun h => ?_) (fun h => ?_)
    · simp [h]; omega
    · simp [h]
  · simp

/-- spec.LinesOf -/
theorem c_sLinesOf (l : List XOutcome) (hl : l.length ≤ 274877906944) : PC L0 Try.prog 24 [.sl none 3 (l.map XOutcome.cells)] (.tr 1 ((l.map XOutcome.fLine).map strRow)) := by
  refine PC.intro T0_ok fo Try.func24 rfl rfl (by decide) rfl rfl (by kernel_rfl) ?_
  intro C sn A g0 F0 w0 hG
  simp
  refine LoopK.list T0_ok fo l (fun pre g => ⟨[(0, .sl none 3 (l.map XOutcome.cells)), (3, .rs 1 g 0 pre.length), (4, .int .i64 pre.length)], [.frame sn A, .arr g true 1 ((pre.map XOutcome.fLine).map strRow)]⟩) (fun _ _ _ => True) 0 (fun _ _ => rfl) (by simp) trivial ?_ ?_
  · rintro pre r suf g rfl _
    simp at hl
    simp (disch := first | omega | assumption | (simp; done) | fail) [wrapi64]
    omega
  · simp

/-- impl.LinesOf -/
theorem c_iLinesOf (l : List XOutcome) (hl : l.length ≤ 274877906944) : PC L0 Try.prog 25 [.sl none 3 (l.map XOutcome.cells)] (.tr 1 ((l.map XOutcome.fLine).map strRow)) := by
  refine PC.intro T0_ok fo Try.func25 rfl rfl (by decide) rfl rfl (by kernel_rfl) ?_
  intro C sn A g0 F0 w0 hG
  simp
  refine LoopK.list T0_ok fo l (fun pre g => ⟨[(0, .sl none 3 (l.map XOutcome.cells)), (3, .rs 1 g 0 pre.length), (7, .sl none 3 (l.map XOutcome.cells)), (8, .int .i64 l.length), (9, .int .i64 pre.length)], [.frame sn A, .arr g true 1 ((pre.map XOutcome.fLine).map strRow)]⟩) (fun _ _ _ => True) 0 (fun _ _ => rfl) (by simp) trivial ?_ ?_
  · rintro pre r suf g rfl _
    simp at hl
    simp (disch := first | omega | assumption | (simp; done) | fail) [wrapi64]
    omega
  · simp

def isTag (r : XReply) : Bool := decide (12 ≤ r.fKind ∧ r.fKind ≤ 15)
/-- spec.l1In -/
theorem c_l1In (x a b : Int) : PC L0 Try.prog 75 [.int .i64 x, .int .i64 a, .int .i64 b] (.bool (decide (a ≤ x ∧ x ≤ b))) := by
  refine PC.intro T0_ok fo Try.func75 rfl rfl (by decide) rfl rfl (by kernel_rfl) ?_
  intro C sn A g0 F0 w0 hG
  simp +contextual
/-- spec.l14Tagged -/
theorem c_l14Tagged (k : Int) : PC L0 Try.prog 56 [.int .i64 k] (.bool (decide (12 ≤ k ∧ k ≤ 14))) := by
  refine PC.intro T0_ok fo Try.func56 rfl rfl (by decide) rfl rfl (by kernel_rfl) ?_
  intro C sn A g0 F0 w0 hG
  simp
  refine CallK.pureS (c_l1In _ _ _) (by simp) (by simp) ?_
  simp
/-- spec.Tagged -/
theorem c_sTagged (l : List XReply) (hl : l.length ≤ 274877906944) : PC L0 Try.prog 29 [.sl none 6 (l.map XReply.cells)] (.tr 6 ((l.filter isTag).map XReply.cells)) := by
  refine PC.intro T0_ok fo Try.func29 rfl rfl (by decide) rfl rfl (by kernel_rfl) ?_
  intro C sn A g0 F0 w0 hG
  simp
  refine LoopK.list T0_ok fo l (fun pre g => ⟨[(0, .sl none 6 (l.map XReply.cells)), (3, .rs 1 g 0 (pre.filter isTag).length), (4, .int .i64 pre.length)], [.frame sn A, .arr g true 6 ((pre.filter isTag).map XReply.cells)]⟩) (fun _ _ _ => True) 0 (fun _ _ => rfl) (by simp) trivial ?_ ?_
  · rintro pre r suf g rfl _
    have hle := List.length_filter_le isTag pre
    simp at hl
    simp (disch := first | omega | assumption | (simp; done) | fail) [wrapi64]
    by_cases h1 : 12 ≤ r.fKind ∧ r.fKind ≤ 14
    · have ht : isTag r = true := by simp [isTag]; omega
      refine CallK.pureS (c_l14Tagged _) (by simp) (by simp) ?_
      simp (disch := first | omega | assumption | (simp; done) | fail) [wrapi64, h1, ht]
      omega
    · by_cases h2 : r.fKind = 15
      · have ht : isTag r = true := by simp [isTag]; omega
        refine CallK.pureS (c_l14Tagged _) (by simp) (by simp) ?_
        simp (disch := first | omega | assumption | (simp; done) | fail) [wrapi64, h1, h2, ht]
        omega
      · have ht : isTag r = false := by simp [isTag]; omega
        refine CallK.pureS (c_l14Tagged _) (by simp) (by simp) ?_
        simp (disch := first | omega | assumption | (simp; done) | fail) [wrapi64, h1, h2, ht]
  · simp

/-- slices.Index at int -/
def idxI (v : Int) : List Int → Nat → Int
  | [], _ => -1
  | x :: r, i => if v = x then i else idxI v r (i + 1)
theorem idxI_nn (v : Int) : ∀ (l : List Int) (i : Nat), decide (0 ≤ idxI v l i) = decide (v ∈ l)
  | [], i => by simp [idxI]
  | x :: r, i => by
    rw [idxI]
    by_cases h : v = x
    · simp [h]
    · rw [if_neg h, idxI_nn v r (i + 1)]; simp [h]
theorem c_indexInt (l : List Int) (v : Int) (hl : l.length ≤ 274877906944) : PC L0 Try.prog 103 [.sl none 1 (l.map intRow), .int .i64 v] (.int .i64 (idxI v l 0)) := by
  refine PC.intro T0_ok fo Try.func103 rfl rfl (by decide) rfl rfl (by kernel_rfl) ?_
  intro C sn A g0 F0 w0 hG
  simp
  refine LoopK.list T0_ok fo l (fun pre (_ : Unit) => ⟨[(0, .sl none 1 (l.map intRow)), (1, .int .i64 v), (7, .int .i64 l.length), (8, .int .i64 pre.length)], [.frame sn A]⟩) (fun pre suf _ => idxI v suf pre.length = idxI v l 0) () (fun _ _ => rfl) (by simp) rfl ?_ ?_
  · rintro pre r suf _ rfl hi
    rw [idxI] at hi
    simp at hl
    simp (disch := first | omega | assumption | (simp; done) | fail) [wrapi64]
    refine gw.mk (fun h => by rw [if_pos h] at hi; simpa using hi) (fun h => ?_)
    rw [if_neg h] at hi
    simpa using hi
  · rintro _ hi
    simpa [idxI] using hi
/-- slices.Contains at int -/
theorem c_containsInt (l : List Int) (v : Int) (hl : l.length ≤ 274877906944) : PC L0 Try.prog 76 [.sl none 1 (l.map intRow), .int .i64 v] (.bool (decide (v ∈ l))) := by
  refine PC.intro T0_ok fo Try.func76 rfl rfl (by decide) rfl rfl (by kernel_rfl) ?_
  intro C sn A g0 F0 w0 hG
  simp
  refine CallK.pure (c_indexInt l v hl) (by simp) (by simp) ?_
  simp
  simpa using idxI_nn v l 0
/-- impl.isOneOf -/
theorem c_isOneOf (k : Int) (l : List Int) (hl : l.length ≤ 274877906944) : PC L0 Try.prog 57 [.int .i64 k, .sl none 1 (l.map intRow)] (.bool (decide (k ∈ l))) := by
  refine PC.intro T0_ok fo Try.func57 rfl rfl (by decide) rfl rfl (by kernel_rfl) ?_
  intro C sn A g0 F0 w0 hG
  simp
  refine CallK.pure (c_containsInt l k hl) (by simp) (by simp) ?_
  simp
/-- impl.Tagged -/
theorem c_iTagged (l : List XReply) (hl : l.length ≤ 274877906944) : PC L0 Try.prog 30 [.sl none 6 (l.map XReply.cells)] (.tr 6 ((l.filter isTag).map XReply.cells)) := by
  refine PC.intro T0_ok fo Try.func30 rfl rfl (by decide) rfl rfl (by kernel_rfl) ?_
  intro C sn A g0 F0 w0 hG
  simp
  refine LoopK.list T0_ok fo l (fun pre g => ⟨[(0, .sl none 6 (l.map XReply.cells)), (3, .rs 1 g 0 (pre.filter isTag).length), (7, .sl none 6 (l.map XReply.cells)), (8, .int .i64 l.length), (9, .int .i64 pre.length)], [.frame sn A, .arr g true 6 ((pre.filter isTag).map XReply.cells)]⟩) (fun _ _ _ => True) 0 (fun _ _ => rfl) (by simp) trivial ?_ ?_
  · rintro pre r suf g rfl _
    have hle := List.length_filter_le isTag pre
    simp at hl
    simp (disch := first | omega | assumption | (simp; done) | fail) [wrapi64]
    refine CallK.pure (c_isOneOf r.fKind [12, 13, 14, 15] (by simp)) (by simp) (by simp) ?_
    simp
    by_cases h1 : 12 ≤ r.fKind ∧ r.fKind ≤ 15
    · have ht : isTag r = true := by simp [isTag]; omega
      have h2 : r.fKind = 12 ∨ r.fKind = 13 ∨ r.fKind = 14 ∨ r.fKind = 15 := by omega
      simp (disch := first | omega | assumption | (simp; done) | fail) [wrapi64, h2, ht]
      omega
    · have ht : isTag r = false := by simp [isTag]; omega
      have h2 : ¬ (r.fKind = 12 ∨ r.fKind = 13 ∨ r.fKind = 14 ∨ r.fKind = 15) := by omega
      simp (disch := first | omega | assumption | (simp; done) | fail) [wrapi64, h2, ht]
  · simp

/-- laws.FnExactLeads -/
theorem c_FnExactLeads (a b : List XReply) (ha : a.length ≤ 9223372036854775807) (hb : b.length ≤ 9223372036854775807) (ha2 : ∀ x ∈ a, x.Ok) (hb2 : ∀ x ∈ b, x.Ok) : PC L0 Try.prog 3 [.sl none 6 (a.map XReply.cells), .sl none 6 (b.map XReply.cells)] (.bool true) := by
  refine PC.intro T0_ok fo Try.func3 rfl rfl (by decide) rfl rfl (by kernel_rfl) ?_
  intro C sn A g0 F0 w0 hG
  simp
  refine CallK.pure (c_szReplyS a 1048576 (by omega) (by omega) ha ha2) (by simp) (by simp) ?_
  simp
  intro hs
  have hle := szS_len (by omega : ¬ szS szRReply a 1048576 < 0)
  have hs2 := szS_le szRReply_le a 1048576 (by omega)
  refine CallK.pure (c_szReplyS b _ hs hs2 hb hb2) (by simp) (by simp) ?_
  simp
  intro ht
  have hle2 := szS_len (by omega : ¬ szS szRReply b (szS szRReply a 1048576) < 0)
  refine CallK.pure (c_toReplyS a (by omega)) (by simp) (by simp) ?_
  simp
  refine CallK.pure (c_toReplyS b (by omega)) (by simp) (by simp) ?_
  simp
  refine CallK.pure (c_sLeads a b (by omega) (by omega)) (by simp) (by simp) ?_
  simp
  refine CallK.pure (c_toReplyS a (by omega)) (by simp) (by simp) ?_
  simp
  refine CallK.pure (c_toReplyS b (by omega)) (by simp) (by simp) ?_
  simp
  refine CallK.pure (c_iLeads a b (by omega) (by omega)) (by simp) (by simp) ?_
  simp
  refine CallK.pure (c_toReplyS a (by omega)) (by simp) (by simp) ?_
  simp
  refine CallK.pure (c_eqReplyS a (by omega)) (by simp) (by simp) ?_
  simp
  refine CallK.pure (c_toReplyS b (by omega)) (by simp) (by simp) ?_
  simp
  refine CallK.pure (c_eqReplyS b (by omega)) (by simp) (by simp) ?_
  simp

/-- laws.FnExactOutcomesOf -/
theorem c_FnExactOutcomesOf (l : List XOutcome) (x : Int) (hl : l.length ≤ 9223372036854775807) (hr : ∀ r ∈ l, r.Ok) : PC L0 Try.prog 4 [.sl none 3 (l.map XOutcome.cells), .int .i64 x] (.bool true) := by
  refine PC.intro T0_ok fo Try.func4 rfl rfl (by decide) rfl rfl (by kernel_rfl) ?_
  intro C sn A g0 F0 w0 hG
  simp
  refine CallK.pure (c_szOutcomeS l 1048576 (by omega) (by omega) hl hr) (by simp) (by simp) ?_
  simp
  intro hs
  have hle := szS_len (by omega : ¬ szS szROutcome l 1048576 < 0)
  generalize hm : l.filter (fun r : XOutcome => decide (r.fSession = x)) = m
  have hfl := List.length_filter_le (fun r : XOutcome => decide (r.fSession = x)) l
  rw [hm] at hfl
  have c1 := c_sOutcomesOf l x (by omega)
  have c2 := c_iOutcomesOf l x (by omega)
  rw [hm] at c1 c2
  have h1 : ¬ (1 + 3 * (l.length : Int) < 0) := by omega
  have h2 : ¬ (1 + 3 * (m.length : Int) < 0) := by omega
  refine CallK.pure (c_toOutcomeS l (by omega)) (by simp) (by simp) ?_
  simp
  refine CallK.pure (c1) (by simp) (by simp) ?_
  simp
  refine CallK.pure (c_toOutcomeS l (by omega)) (by simp) (by simp) ?_
  simp
  refine CallK.pure (c2) (by simp) (by simp) ?_
  simp
  refine CallK.pure (c_eqOutcomeS m (by omega)) (by simp) (by simp) ?_
  simp
  refine CallK.pure (c_toOutcomeS l (by omega)) (by simp) (by simp) ?_
  simp
  refine CallK.pure (c_eqOutcomeS l (by omega)) (by simp) (by simp) ?_
  simp
  refine CallK.mk (c_markOutcomeS l _ (by omega) (by omega) rfl (by simp) ?_)
  simp [h1]
  refine CallK.pure (c_eqOutcomeS m (by omega)) (by simp) (by simp) ?_
  simp
  refine CallK.mk (c_markOutcomeS m _ (by omega) (by omega) rfl (by simp) ?_)
  simp
  refine CallK.pure (c_heldOutcomeS m.length 1 (by omega) (by omega)) (by simp) (by simp) ?_
  simp (disch := first | omega | assumption | (simp; done) | fail) [wrapi64, h2]
  refine CallK.pure (c_toOutcomeS l (by omega)) (by simp) (by simp) ?_
  simp
  refine CallK.pure (c2) (by simp) (by simp) ?_
  simp
  refine CallK.pure (c_eqOutcomeS m (by omega)) (by simp) (by simp) ?_
  simp
  refine CallK.pure (c_heldOutcomeS m.length 1 (by omega) (by omega)) (by simp) (by simp) ?_
  simp (disch := first | omega | assumption | (simp; done) | fail) [wrapi64, h2]

/-- laws.FnExactLinesOf -/
theorem c_FnExactLinesOf (l : List XOutcome) (hl : l.length ≤ 9223372036854775807) (hr : ∀ r ∈ l, r.Ok) : PC L0 Try.prog 5 [.sl none 3 (l.map XOutcome.cells)] (.bool true) := by
  refine PC.intro T0_ok fo Try.func5 rfl rfl (by decide) rfl rfl (by kernel_rfl) ?_
  intro C sn A g0 F0 w0 hG
  simp
  refine CallK.pure (c_szOutcomeS l 1048576 (by omega) (by omega) hl hr) (by simp) (by simp) ?_
  simp
  intro hs
  have hle := szS_len (by omega : ¬ szS szROutcome l 1048576 < 0)
  have c1 := c_sLinesOf l (by omega)
  have c2 := c_iLinesOf l (by omega)
  generalize hm : l.map XOutcome.fLine = m
  have hfl : m.length = l.length := by rw [← hm]; simp
  rw [hm] at c1 c2
  have h1 : ¬ (1 + 3 * (l.length : Int) < 0) := by omega
  have h2 : ¬ (1 + (m.length : Int) < 0) := by omega
  refine CallK.pure (c_toOutcomeS l (by omega)) (by simp) (by simp) ?_
  simp
  refine CallK.pure (c1) (by simp) (by simp) ?_
  simp
  refine CallK.pure (c_toOutcomeS l (by omega)) (by simp) (by simp) ?_
  simp
  refine CallK.pure (c2) (by simp) (by simp) ?_
  simp
  refine CallK.pure (c_eqStringS m (by omega)) (by simp) (by simp) ?_
  simp
  refine CallK.pure (c_toOutcomeS l (by omega)) (by simp) (by simp) ?_
  simp
  refine CallK.pure (c_eqOutcomeS l (by omega)) (by simp) (by simp) ?_
  simp
  refine CallK.mk (c_markOutcomeS l _ (by omega) (by omega) rfl (by simp) ?_)
  simp [h1]
  refine CallK.pure (c_eqStringS m (by omega)) (by simp) (by simp) ?_
  simp
  refine CallK.mk (c_markStringS m _ (by omega) (by omega) rfl (by simp) ?_)
  simp
  refine CallK.pure (c_heldStringS m.length 1 (by omega) (by omega)) (by simp) (by simp) ?_
  simp (disch := first | omega | assumption | (simp; done) | fail) [wrapi64, h2]
  refine CallK.pure (c_toOutcomeS l (by omega)) (by simp) (by simp) ?_
  simp
  refine CallK.pure (c2) (by simp) (by simp) ?_
  simp
  refine CallK.pure (c_eqStringS m (by omega)) (by simp) (by simp) ?_
  simp
  refine CallK.pure (c_heldStringS m.length 1 (by omega) (by omega)) (by simp) (by simp) ?_
  simp (disch := first | omega | assumption | (simp; done) | fail) [wrapi64, h2]

/-- laws.FnExactTagged -/
theorem c_FnExactTagged (l : List XReply) (hl : l.length ≤ 9223372036854775807) (hr : ∀ r ∈ l, r.Ok) : PC L0 Try.prog 6 [.sl none 6 (l.map XReply.cells)] (.bool true) := by
  refine PC.intro T0_ok fo Try.func6 rfl rfl (by decide) rfl rfl (by kernel_rfl) ?_
  intro C sn A g0 F0 w0 hG
  simp
  refine CallK.pure (c_szReplyS l 1048576 (by omega) (by omega) hl hr) (by simp) (by simp) ?_
  simp
  intro hs
  have hle := szS_len (by omega : ¬ szS szRReply l 1048576 < 0)
  have c1 := c_sTagged l (by omega)
  have c2 := c_iTagged l (by omega)
  have hfl := List.length_filter_le isTag l
  generalize hm : l.filter isTag = m
  rw [hm] at c1 c2 hfl
  have h1 : ¬ (1 + 6 * (l.length : Int) < 0) := by omega
  have h2 : ¬ (1 + 6 * (m.length : Int) < 0) := by omega
  refine CallK.pure (c_toReplyS l (by omega)) (by simp) (by simp) ?_
  simp
  refine CallK.pure (c1) (by simp) (by simp) ?_
  simp
  refine CallK.pure (c_toReplyS l (by omega)) (by simp) (by simp) ?_
  simp
  refine CallK.pure (c2) (by simp) (by simp) ?_
  simp
  refine CallK.pure (c_eqReplyS m (by omega)) (by simp) (by simp) ?_
  simp
  refine CallK.pure (c_toReplyS l (by omega)) (by simp) (by simp) ?_
  simp
  refine CallK.pure (c_eqReplyS l (by omega)) (by simp) (by simp) ?_
  simp
  refine CallK.mk (c_markReplyS l _ (by omega) (by omega) rfl (by simp) ?_)
  simp [h1]
  refine CallK.pure (c_eqReplyS m (by omega)) (by simp) (by simp) ?_
  simp
  refine CallK.mk (c_markReplyS m _ (by omega) (by omega) rfl (by simp) ?_)
  simp
  refine CallK.pure (c_heldReplyS m.length 1 (by omega) (by omega)) (by simp) (by simp) ?_
  simp (disch := first | omega | assumption | (simp; done) | fail) [wrapi64, h2]
  refine CallK.pure (c_toReplyS l (by omega)) (by simp) (by simp) ?_
  simp
  refine CallK.pure (c2) (by simp) (by simp) ?_
  simp
  refine CallK.pure (c_eqReplyS m (by omega)) (by simp) (by simp) ?_
  simp
  refine CallK.pure (c_heldReplyS m.length 1 (by omega) (by omega)) (by simp) (by simp) ?_
  simp (disch := first | omega | assumption | (simp; done) | fail) [wrapi64, h2]
end Go.Proofs.YtjldkpggcjolcaaT
