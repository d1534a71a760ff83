/- The draws of the laws, 2. Conditions: the lengths that each theorem names. -/
import Derived.Test.YtjldkpggcjolcaaD1
namespace Go.Proofs.YtjldkpggcjolcaaT
open Go Go.Proofs Go.Proofs.YtjldkpggcjolcaaV
set_option maxRecDepth 100000
set_option linter.unusedSimpArgs false
set_option linter.unusedVariables false

set_option maxHeartbeats 4000000 in
theorem d_l14Bent {code : List UInt8} (hc : code.length ≤ 1048576) : Dr code 77 [] isR := by
  refine Dr.intro Try.func77 rfl rfl (by decide) rfl rfl (by kernel_rfl) ?_
  intro i h hi C sn A g0 F0 w0 hG
  simp
  refine CallK.dr (d_l14Right hc) rfl rfl rfl hi (by simp) (by simp) ?_
  rintro _ i h ⟨r, rfl, hr⟩ hi
  simp (disch := first | omega | assumption | (simp; done) | fail) [wrapi64]
  obtain ⟨h1, h2, h3, h4, h5, h6⟩ := hr
  refine CallK.dr (d_l1Below hc 14 (by decide) (by decide)) rfl rfl rfl hi (by simp) (by simp) ?_
  rintro _ i h ⟨x, rfl, x0, x1⟩ hi
  simp (disch := first | omega | assumption | (simp; done) | fail) [wrapi64]
  have : x = 0 ∨ x = 1 ∨ x = 2 ∨ x = 3 ∨ x = 4 ∨ x = 5 ∨ (x ≠ 0 ∧ x ≠ 1 ∧ x ≠ 2 ∧ x ≠ 3 ∧ x ≠ 4 ∧ x ≠ 5) := by omega
  rcases this with rfl | rfl | rfl | rfl | rfl | rfl | ⟨e0, e1, e2, e3, e4, e5⟩
  · simp (disch := first | omega | assumption | (simp; done) | fail) [wrapi64]
    refine CallK.dr (d_l1Below hc 19 (by decide) (by decide)) rfl rfl rfl hi (by simp) (by simp) ?_
    rintro _ i h ⟨a, rfl, a0, a1⟩ hi
    simp (disch := first | omega | assumption | (simp; done) | fail) [wrapi64]
    refine postD.mk (i := i) (res := .agg (XReply.cells { r with fKind := a - 1 })) hi rfl ?hpost1 ?hq1
    case hpost1 => simp
    refine ⟨_, rfl, ?_, ?_, ?_, ?_, ?_, ?_⟩ <;> simp <;> omega
  · simp (disch := first | omega | assumption | (simp; done) | fail) [wrapi64]
    refine CallK.dr (d_l1Whole hc) rfl rfl rfl hi (by simp) (by simp) ?_
    rintro _ i h ⟨a, rfl, ha⟩ hi
    simp (disch := first | omega | assumption | (simp; done) | fail) [wrapi64]
    refine postD.mk (i := i) (res := .agg (XReply.cells { r with fN := a })) hi rfl ?hpost2 ?hq2
    case hpost2 => simp
    refine ⟨_, rfl, ?_, ?_, ?_, ?_, ?_, ?_⟩ <;> simp <;> omega
  · simp (disch := first | omega | assumption | (simp; done) | fail) [wrapi64]
    refine CallK.pickI rfl rfl hc hi rfl rfl (by decide) rfl (by decide) (by decide) (by simp) ?_
    intro a i h hs hi
    simp (disch := first | omega | assumption | (simp; done) | fail) [wrapi64]
    have ha : i64 a := by
      simp at hs
      unfold i64; omega
    refine postD.mk (i := i) (res := .agg (XReply.cells { r with fUid := a })) hi rfl ?hpost3 ?hq3
    case hpost3 => simp
    refine ⟨_, rfl, ?_, ?_, ?_, ?_, ?_, ?_⟩ <;> simp <;> omega
  · simp (disch := first | omega | assumption | (simp; done) | fail) [wrapi64]
    refine CallK.dr (d_l5Bits hc) rfl rfl rfl hi (by simp) (by simp) ?_
    rintro _ i h ⟨a, rfl, ha⟩ hi
    simp (disch := first | omega | assumption | (simp; done) | fail) [wrapi64]
    refine postD.mk (i := i) (res := .agg (XReply.cells { r with fFlags := a })) hi rfl ?hpost4 ?hq4
    case hpost4 => simp
    refine ⟨_, rfl, ?_, ?_, ?_, ?_, ?_, ?_⟩ <;> simp <;> omega
  · simp (disch := first | omega | assumption | (simp; done) | fail) [wrapi64]
    refine CallK.dr (d_l2Any hc) rfl rfl rfl hi (by simp) (by simp) ?_
    rintro _ i h ⟨s, rfl, hs⟩ hi
    simp (disch := first | omega | assumption | (simp; done) | fail) [wrapi64]
    refine postD.mk (i := i) (res := .agg (XReply.cells { r with fName := s })) hi rfl ?hpost5 ?hq5
    case hpost5 => simp
    refine ⟨_, rfl, ?_, ?_, ?_, ?_, ?_, ?_⟩ <;> simp <;> omega
  · simp (disch := first | omega | assumption | (simp; done) | fail) [wrapi64]
    refine CallK.pick rfl rfl hc hi rfl rfl (by decide) rfl (by decide) (by decide) (by simp) ?_
    intro s i h hs hi
    simp (disch := first | omega | assumption | (simp; done) | fail) [wrapi64]
    have hs : s.length ≤ 64 := by
      simp at hs
      rcases hs with hs | hs <;> subst hs <;> decide
    refine postD.mk (i := i) (res := .agg (XReply.cells { r with fText := s })) hi rfl ?hpost6 ?hq6
    case hpost6 => simp
    refine ⟨_, rfl, ?_, ?_, ?_, ?_, ?_, ?_⟩ <;> simp <;> omega
  · simp [e0, e1, e2, e3, e4, e5]
    refine postD.mk (i := i) (res := .agg (XReply.cells r)) hi rfl ?hpost7 ?hq7
    case hpost7 => simp
    exact ⟨_, rfl, h1, h2, h3, h4, h5, h6⟩

theorem d_l1New {C : Cx} {sn : Nat → Option Obj} {A : List Nat} {code : List UInt8} (hc : code.length ≤ 1048576) {K : VV → List Root → Prop} (hK : ∀ h, K (.ptr 1 0 0 0) [.frame sn A, .box (cuC code 0 h)]) : VCall L0 Try.prog C 58 [.sl none 1 (code.map byteRow)] [.frame sn A] K := by
  refine VCall.inline T0_ok fo Try.func58 rfl rfl (by decide) rfl rfl (by kernel_rfl) ?_
  intro g0 F0 w0 hG
  simp (disch := first | omega | assumption | (simp; done) | fail) [wrapi64]
  obtain ⟨n, hn⟩ : ∃ n, (n = code.length ∧ n ≤ 4000) ∨ (n = 4000 ∧ 4000 < code.length) := by
    by_cases h : code.length ≤ 4000
    · exact ⟨_, .inl ⟨rfl, h⟩⟩
    · exact ⟨4000, .inr ⟨rfl, by omega⟩⟩
  refine LoopK.times T0_ok fo n (fun m (h : Int) => ⟨[(0, .sl none 1 (code.map byteRow)), (3, .int .i64 h), (4, .int .i64 m)], [.frame sn A]⟩) (fun _ _ => True) (28544 + code.length) (fun _ _ => rfl) (by simp) trivial ?_ ?_
  · rintro m h hm -
    have h1 : m < code.length := by omega
    have h2 : m < 4000 := by omega
    simp (disch := first | omega | assumption | (simp; done) | fail) [wrapi64, h1, h2, show (m : Int) < 4000 by omega]
  · rintro h -
    rcases hn with ⟨rfl, h1⟩ | ⟨rfl, h1⟩
    · simp [cuC]
      exact hK h
    · simp [h1, show (4000 : Int) < code.length by omega]
      exact hK h
theorem CallK.new {E : Env0} {Q : Exit → St → Prop} {ks : List Fr} {env : List (Nat × VV)} {dst : Option Nat} {B : Array Oper} {r : List Oper} {sn : Nat → Option Obj} {A : List Nat} {code : List UInt8} (hL : E.L = L0) (hP : E.P = Try.prog) (hc : code.length ≤ 1048576)
    (hK : ∀ h, VS E (.ops B r :: ks) Q .normal (dput dst (.ptr 1 0 0 0) env) [.frame sn A, .box (cuC code 0 h)]) : CallK E 58 [.sl none 1 (code.map byteRow)] dst B r ks Q env [.frame sn A] := by
  refine CallK.mk ?_
  rw [hL, hP]
  exact d_l1New hc hK

def postQ (T : Tbl) (fr : Root) (rs : List ResultVar) (Q : VV → Prop) (e : Exit) (σ : St) : Prop := ∃ res, Q res ∧ post T fr rs res e σ
theorem postQ.mk {T : Tbl} {fr : Root} {rs : List ResultVar} {Q : VV → Prop} {e : Exit} {σ : St} {res : VV} (hp : post T fr rs res e σ) (hq : Q res) : postQ T fr rs Q e σ := ⟨res, hq, hp⟩
theorem PCQ.begin {L : Low} {P : Program} {T : Tbl} {f nt : Nat} {fn : Func} {c : Code} {rs : List ResultVar} {args : List VV} {Qr : VV → Prop} (hT : TOk P T) (hm : P.follows .mixedOrders = true) (hf : P.funcs[f]? = some fn) (hc : fn.body = some c) (hnt : fn.ntmps = nt)
    (hn : (fn.name == "runtime.NumGoroutine") = false) (hrs : fn.results = rs.toArray) (hlen0 : Nat.ble args.length nt = true) (hcode : codeOk nt c = true)
    (h : ∀ C sn A g F w hG, VS ⟨P, T, C, ⟨[.frame sn A], g, F, w⟩, nt, L, hG⟩ [.code c] (postQ T (.frame sn A) rs Qr) .normal (initEnv 0 args) [.frame sn A]) : PCQ L P f args Qr := PCQ.intro hT hm hf hc hnt hn hrs hlen0 hcode h

theorem c_DrawLinesText {code : List UInt8} (hc : code.length ≤ 1048576) : PCQ L0 Try.prog 59 [.sl none 1 (code.map byteRow)] (fun v => ∃ l : List XReply, v = .tr 6 (l.map XReply.cells) ∧ l.length ≤ 8 ∧ ∀ r ∈ l, drawnR r) := by
  refine PCQ.begin T0_ok fo Try.func59 rfl rfl (by decide) rfl rfl (by kernel_rfl) ?_
  intro C sn A g0 F0 w0 hG
  simp
  refine CallK.new rfl rfl hc fun h => ?_
  simp
  have hi : 0 ≤ code.length := by omega
  refine CallK.dr (d_l1Below hc 5 (by decide) (by decide)) rfl rfl rfl hi (by simp) (by simp) ?_
  rintro _ i h ⟨x, rfl, x0, x1⟩ hi
  simp (disch := first | omega | assumption | (simp; done) | fail) [wrapi64]
  obtain ⟨n, rfl⟩ := Int.eq_ofNat_of_zero_le x0
  refine LoopK.times T0_ok fo n (fun m (p : List XReply × Nat × Int × Nat) => ⟨[(3, .ptr 1 0 0 0), (4, .rs 2 p.2.2.2 0 p.1.length), (5, .int .i64 n), (6, .int .i64 m)], [.frame sn A, .box (cuC code p.2.1 p.2.2.1), .arr p.2.2.2 true 6 (p.1.map XReply.cells)]⟩) (fun m p => p.1.length = m ∧ p.2.1 ≤ code.length ∧ ∀ r ∈ p.1, drawnR r) ([], i, h, 0) (fun _ _ => rfl) (by simp) (by simpa using hi) ?_ ?_
  · rintro m ⟨l, i, h, g⟩ hm ⟨rfl, hi, hl⟩
    simp only at hm hi hl
    simp (disch := first | omega | assumption | (simp; done) | fail) [wrapi64, hm]
    refine CallK.dr (d_l14Bent hc) rfl rfl rfl hi (by simp) (by simp) ?_
    rintro _ i h ⟨r, rfl, hr⟩ hi
    simp (disch := first | omega | assumption | (simp; done) | fail) [wrapi64]
    refine ⟨by omega, l ++ [r], i, ⟨h, _, ⟨rfl, by simp⟩, rfl, rfl, by simp⟩, by simp, hi, fun r' hr' => ?_⟩
    rcases List.mem_append.1 hr' with h' | h'
    · exact hl _ h'
    · simp at h'; exact h' ▸ hr
  · rintro ⟨l, i, h, g⟩ ⟨rfl, hi, hl⟩
    simp only at x1 hl hi
    simp
    refine postQ.mk (res := .tr 6 (l.map XReply.cells)) (by simp) ?_
    exact ⟨l, rfl, by omega, hl⟩

def twoR (v : VV) : Prop := ∃ a b : List XReply, v = .tup [.tr 6 (a.map XReply.cells), .tr 6 (b.map XReply.cells)] ∧ a.length ≤ 16 ∧ b.length ≤ 16
theorem c_DrawLeads {code : List UInt8} (hc : code.length ≤ 1048576) : PCQ L0 Try.prog 34 [.sl none 1 (code.map byteRow)] twoR := by
  refine PCQ.begin T0_ok fo Try.func34 rfl rfl (by decide) rfl rfl (by kernel_rfl) ?_
  intro C sn A g0 F0 w0 hG
  simp
  refine CallK.new rfl rfl hc fun h => ?_
  simp
  have hi : 0 ≤ code.length := by omega
  refine CallK.pureQ (c_DrawLinesText hc) (by simp) (.inr (by simp)) ?_
  rintro _ ⟨b, rfl, hb, hbr⟩
  simp
  rw [wrapi64 (by omega) (by omega)]
  refine CallK.dr (d_l1Below hc (b.length + 1 : Int) (by omega) (by omega)) rfl rfl rfl hi (by simp) (by simp) ?_
  rintro _ i h ⟨x, rfl, x0, x1⟩ hi
  obtain ⟨m, rfl⟩ := Int.eq_ofNat_of_zero_le x0
  have hm : m ≤ b.length := by omega
  simp [hm]
  refine ⟨⟨?_, by omega⟩, ?_⟩
  · intro r hr
    have := List.mem_of_mem_take hr
    simp only [List.mem_map] at this
    obtain ⟨y, _, rfl⟩ := this
    simp
  rw [← List.map_take]
  have hlen : (b.take m).length = m := by simp; omega
  generalize b.take m = a at hlen
  subst hlen
  refine CallK.dr (d_l1Once hc 3 (by decide) (by decide)) rfl rfl rfl hi (by simp) (by simp) ?_
  rintro _ i h ⟨x, rfl⟩ hi
  cases x
  · simp
    refine postQ.mk (res := .tup [.tr 6 (a.map XReply.cells), .tr 6 (b.map XReply.cells)]) (by simp) ?_
    exact ⟨a, b, rfl, by omega, by omega⟩
  · simp
    refine CallK.dr (d_l14Right hc) rfl rfl rfl hi (by simp) (by simp) ?_
    rintro _ i h ⟨r, rfl, hr⟩ hi
    simp
    refine ⟨by omega, ?_⟩
    refine postQ.mk (res := .tup [.tr 6 ((a ++ [r]).map XReply.cells), .tr 6 (b.map XReply.cells)]) (by simp) ?_
    exact ⟨a ++ [r], b, rfl, by simp; omega, by omega⟩

theorem c_big (code : List UInt8) : PC L0 Try.prog 33 [.sl none 1 (code.map byteRow)] (.bool (decide (1048576 < code.length))) := by
  refine PC.intro T0_ok fo Try.func33 rfl rfl (by decide) rfl rfl (by kernel_rfl) ?_
  intro C sn A g0 F0 w0 hG
  simp
  omega
theorem c_at0 (code : List UInt8) (hc : code.length ≤ 1048576) : PCQ L0 Try.prog 35 [.sl none 1 (code.map byteRow), .int .i64 2] (fun v => ∃ n : Nat, v = .int .i64 n ∧ n ≤ 255) := by
  refine PCQ.begin T0_ok fo Try.func35 rfl rfl (by decide) rfl rfl (by kernel_rfl) ?_
  intro C sn A g0 F0 w0 hG
  by_cases h : 2 < code.length
  · simp (disch := first | omega | assumption | (simp; done) | fail) [h, wrapi64, show (2 : Int) < code.length by omega]
    have := code[2].toNat_lt
    rw [wrapi64 (by omega) (by omega)]
    refine postQ.mk (res := .int .i64 code[2].toNat) (by simp) ?_
    exact ⟨_, rfl, by omega⟩
  · simp (disch := first | omega | assumption | (simp; done) | fail) [h, wrapi64, show ¬ (2 : Int) < code.length by omega]
    refine postQ.mk (res := .int .i64 ((14 + (code.length : Int)).tmod 256)) (by simp) ?_
    have h0 := Int.tmod_nonneg (a := 14 + (code.length : Int)) 256 (by omega)
    have h1 := Int.tmod_lt_of_pos (14 + (code.length : Int)) (show (0 : Int) < 256 by decide)
    exact ⟨((14 + (code.length : Int)).tmod 256).toNat, by rw [Int.toNat_of_nonneg h0], by omega⟩
theorem c_iLeadsT {a b : List XReply} (ha : a.length ≤ 64) (hb : b.length ≤ 64) (h : a <+: b) : PC L0 Try.prog 15 [.sl none 6 (a.map XReply.cells), .sl none 6 (b.map XReply.cells)] (.bool true) := by
  have := c_iLeads a b (by omega) (by omega)
  rwa [decide_eq_true h] at this
theorem c_iLeadsF {a b : List XReply} (ha : a.length ≤ 64) (hb : b.length ≤ 64) (h : ¬ a <+: b) : PC L0 Try.prog 15 [.sl none 6 (a.map XReply.cells), .sl none 6 (b.map XReply.cells)] (.bool false) := by
  have := c_iLeads a b (by omega) (by omega)
  rwa [decide_eq_false h] at this
theorem c_sLeadsT {a b : List XReply} (ha : a.length ≤ 64) (hb : b.length ≤ 64) (h : a <+: b) : PC L0 Try.prog 13 [.sl none 6 (a.map XReply.cells), .sl none 6 (b.map XReply.cells)] (.bool true) := by
  have := c_sLeads a b (by omega) (by omega)
  rwa [decide_eq_true h] at this
theorem c_sLeadsF {a b : List XReply} (ha : a.length ≤ 64) (hb : b.length ≤ 64) (h : ¬ a <+: b) : PC L0 Try.prog 13 [.sl none 6 (a.map XReply.cells), .sl none 6 (b.map XReply.cells)] (.bool false) := by
  have := c_sLeads a b (by omega) (by omega)
  rwa [decide_eq_false h] at this
set_option maxHeartbeats 4000000 in
theorem c_FnLeads (code : List UInt8) : PC L0 Try.prog 7 [.sl none 1 (code.map byteRow)] (.bool true) := by
  refine PC.intro T0_ok fo Try.func7 rfl rfl (by decide) rfl rfl (by kernel_rfl) ?_
  intro C sn A g0 F0 w0 hG
  simp
  refine CallK.pure (c_big code) (by simp) (by simp) ?_
  by_cases hc : 1048576 < code.length
  · simp [hc]
  have hc' : code.length ≤ 1048576 := by omega
  simp [hc]
  refine CallK.pureQ (c_DrawLeads hc') (by simp) (.inr (by simp)) ?_
  rintro _ ⟨a, b, rfl, ha, hb⟩
  simp
  have hf : (a.filter isTag).length ≤ a.length := List.length_filter_le _ _
  by_cases hab : a <+: b
  · skip
    refine CallK.pure (c_iLeadsT (by omega) (by omega) hab) (by simp) (by simp) ?_
    simp
    refine CallK.pure (c_sLeadsT (by omega) (by omega) hab) (by simp) (by simp) ?_
    simp
    refine CallK.pure (c_iLeadsT (a := a) (b := a) (by omega) (by omega) (List.prefix_refl a)) (by simp) (by simp) ?_
    simp
    refine CallK.pureQ (c_at0 code hc') (by simp) (.inr (by simp)) ?_
    rintro _ ⟨n, rfl, hn⟩
    simp
    obtain ⟨k, hk, hk2⟩ : ∃ k : Nat, (n : Int).tmod (a.length + 1) = k ∧ k ≤ a.length := by
      have h0 := Int.tmod_nonneg (a := (n : Int)) (a.length + 1) (by omega)
      have h1 := Int.tmod_lt_of_pos (n : Int) (show (0 : Int) < a.length + 1 by omega)
      exact ⟨((n : Int).tmod (a.length + 1)).toNat, by rw [Int.toNat_of_nonneg h0], by omega⟩
    rw [wrapi64 (by omega) (by omega), if_neg (show ¬ (a.length : Int) + 1 = 0 by omega), hk]
    simp
    refine CallK.pure (c_iTagged a (by omega)) (by simp) (by simp) ?_
    simp [hk2]
    refine CallK.pure (c_iLeadsT (a := a.take k) (b := a) (by simp; omega) (by omega) (List.take_prefix k a)) (by simp [hk2, List.map_take]) (by simp) ?_
    simp (config := { maxSteps := 10000000 }) [hf, hk2]
    refine CallK.pure (c_iLeadsT (a := a.take k) (b := b) (by simp; omega) (by omega) ((List.take_prefix k a).trans hab)) (by simp [hk2, List.map_take]) (by simp) ?_
    simp (config := { maxSteps := 10000000 }) [hf]
    refine CallK.pure (c_sTagged a (by omega)) (by simp) (by simp) ?_
    simp
  · skip
    refine CallK.pure (c_iLeadsF (by omega) (by omega) hab) (by simp) (by simp) ?_
    simp
    refine CallK.pure (c_sLeadsF (by omega) (by omega) hab) (by simp) (by simp) ?_
    simp
    refine CallK.pure (c_iLeadsT (a := a) (b := a) (by omega) (by omega) (List.prefix_refl a)) (by simp) (by simp) ?_
    simp
    refine CallK.pureQ (c_at0 code hc') (by simp) (.inr (by simp)) ?_
    rintro _ ⟨n, rfl, hn⟩
    simp
    obtain ⟨k, hk, hk2⟩ : ∃ k : Nat, (n : Int).tmod (a.length + 1) = k ∧ k ≤ a.length := by
      have h0 := Int.tmod_nonneg (a := (n : Int)) (a.length + 1) (by omega)
      have h1 := Int.tmod_lt_of_pos (n : Int) (show (0 : Int) < a.length + 1 by omega)
      exact ⟨((n : Int).tmod (a.length + 1)).toNat, by rw [Int.toNat_of_nonneg h0], by omega⟩
    rw [wrapi64 (by omega) (by omega), if_neg (show ¬ (a.length : Int) + 1 = 0 by omega), hk]
    simp
    refine CallK.pure (c_iTagged a (by omega)) (by simp) (by simp) ?_
    simp [hk2]
    refine CallK.pure (c_iLeadsT (a := a.take k) (b := a) (by simp; omega) (by omega) (List.take_prefix k a)) (by simp [hk2, List.map_take]) (by simp) ?_
    simp (config := { maxSteps := 10000000 }) [hf, hk2]
    refine CallK.pure (c_sTagged a (by omega)) (by simp) (by simp) ?_
    simp
end Go.Proofs.YtjldkpggcjolcaaT
