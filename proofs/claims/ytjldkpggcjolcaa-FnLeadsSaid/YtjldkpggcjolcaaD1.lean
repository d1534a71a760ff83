/- The draws of the laws. Conditions: the lengths that each theorem names. -/
import Derived.Test.YtjldkpggcjolcaaC1
import Derived.Test.YtjldkpggcjolcaaV36
namespace Go.Proofs.YtjldkpggcjolcaaT
open Go Go.Proofs Go.Proofs.YtjldkpggcjolcaaV
set_option maxRecDepth 100000
set_option linter.unusedSimpArgs false
set_option linter.unusedVariables false

/-- The cells of the cursor of a draw. -/
def cuC (code : List UInt8) (i : Nat) (h : Int) : List VV := [.sl none 1 (code.map byteRow), .int .i64 i, .int .i64 h]
@[simp] theorem cuC_plain (code : List UInt8) (i : Nat) (h : Int) : (cuC code i h).all plainC = true := by simp [cuC, plainC]
@[simp] theorem cuC_len (code : List UInt8) (i : Nat) (h : Int) : (cuC code i h).length = 3 := rfl
@[simp] theorem cuC_refs (n : Nat) (code : List UInt8) (i : Nat) (h : Int) : refsLts n (cuC code i h) = true := by simp [cuC]

/-- A function that draws: the cursor goes on, the answer is one of 'Q'. -/
def Dr (code : List UInt8) (f : Nat) (args : List VV) (Q : VV → Prop) : Prop :=
  ∀ i h, i ≤ code.length → PCB L0 Try.prog f (cuC code i h) args fun res c2 => Q res ∧ ∃ i h, i ≤ code.length ∧ c2 = cuC code i h
def postD (T : Tbl) (fr : Root) (rs : List ResultVar) (code : List UInt8) (Q : VV → Prop) (e : Exit) (σ : St) : Prop :=
  ∃ res i h, Q res ∧ i ≤ code.length ∧ σ.heap[1]? = some (.box (cuC code i h)) ∧ post T fr rs res e σ
theorem Dr.intro {code : List UInt8} {f nt : Nat} {fn : Func} {c : Code} {rs : List ResultVar} {args : List VV} {Q : VV → Prop} (hf : Try.prog.funcs[f]? = some fn) (hc : fn.body = some c) (hnt : fn.ntmps = nt)
    (hn : (fn.name == "runtime.NumGoroutine") = false) (hrs : fn.results = rs.toArray) (hlen0 : Nat.ble (args.length + 1) nt = true) (hcode : codeOk nt c = true)
    (h : ∀ i h, i ≤ code.length → ∀ C sn A g F w hG, VS ⟨Try.prog, T0, C, ⟨[.frame sn A, .box (cuC code i h)], g, F, w⟩, nt, L0, hG⟩ [.code c] (postD T0 (.frame sn A) rs code Q) .normal (initEnv 0 (.ptr 1 0 0 0 :: args)) [.frame sn A, .box (cuC code i h)]) : Dr code f args Q :=
  by
  intro i hh hi
  refine PCB.introW T0_ok fo hf hc hnt hn hrs hlen0 hcode (cuC_plain _ _ _) ?_
  intro C sn A g F w hG a0 w0 hr
  refine wp_mono (vwpE_ok T0_ok fo c _ _ hcode (by have h := h i hh hi C sn A g F w hG; rw [VS_vk] at h; exact h) a0 w0 hr) ?_
  rintro e a' w' ⟨σ', ⟨res, i', h', h1, h2, h3, h4⟩, hr'⟩
  exact ⟨σ', ⟨res, _, ⟨h1, i', h', h2, rfl⟩, cuC_plain _ _ _, h3, h4⟩, hr'⟩
theorem postD.mk {T : Tbl} {fr : Root} {rs : List ResultVar} {code : List UInt8} {Q : VV → Prop} {e : Exit} {σ : St} {res : VV} {i : Nat} {h : Int} (hi : i ≤ code.length) (hk : σ.heap[1]? = some (.box (cuC code i h))) (hp : post T fr rs res e σ) (hq : Q res) : postD T fr rs code Q e σ :=
  ⟨res, i, h, hq, hi, hk, hp⟩
theorem CallK.dr {E : Env0} {Q : Exit → St → Prop} {ks : List Fr} {env : List (Nat × VV)} {heap : List Root} {f k g : Nat} {args args' : List VV} {code : List UInt8} {i : Nat} {h : Int} {Qr : VV → Prop} {dst : Option Nat} {A : Array Oper} {r : List Oper} (hd : Dr code f args' Qr) (hL : E.L = L0) (hP : E.P = Try.prog)
    (hk : heap[k]? = some (.box (cuC code i h))) (hi : i ≤ code.length) (ha : argVs heap args args') (hr : args.all noRef = true)
    (hK : ∀ res i' h', Qr res → i' ≤ code.length → VS E (.ops A r :: ks) Q .normal (dput dst (adopt (heap.set k (.box (cuC code i' h'))) res).1 env) (adopt (heap.set k (.box (cuC code i' h'))) res).2) : CallK E f (.ptr k g 0 0 :: args) dst A r ks Q env heap :=
  by
  refine CallK.pureB (by rw [hL, hP]; exact hd i h hi) hk (cuC_plain _ _ _) ha hr ?_
  rintro res _ ⟨hq, i', h', hi', rfl⟩
  exact hK res i' h' hq hi'

theorem and255 (a : Nat) : 0 ≤ IntKind.i64.wrap ((a &&& 255 % 2 ^ IntKind.i64.bits : Nat) : Int) ∧ IntKind.i64.wrap ((a &&& 255 % 2 ^ IntKind.i64.bits : Nat) : Int) ≤ 255 := by
  have h : (a &&& 255 % 2 ^ IntKind.i64.bits) ≤ 255 := Nat.le_trans Nat.and_le_right (by decide)
  rw [wrapi64 (by omega) (by omega)]
  omega
def inR (lo hi : Int) (r : VV) : Prop := ∃ x : Int, r = .int .i64 x ∧ lo ≤ x ∧ x ≤ hi
def isI (r : VV) : Prop := ∃ x : Int, r = .int .i64 x ∧ i64 x
def isB (r : VV) : Prop := ∃ x : Bool, r = .bool x
def isS (n : Nat) (r : VV) : Prop := ∃ s : List UInt8, r = .str s ∧ s.length ≤ n

theorem d_l1Byte {code : List UInt8} (hc : code.length ≤ 1048576) : Dr code 78 [] (inR 0 255) := by
  refine Dr.intro Try.func78 rfl rfl (by decide) rfl rfl (by kernel_rfl) ?_
  intro i h hi C sn A g0 F0 w0 hG
  by_cases hi2 : i < code.length
  · obtain ⟨y, hy⟩ : ∃ y, code[i]? = some y := ⟨_, List.getElem?_eq_getElem hi2⟩
    obtain ⟨_, rfl⟩ := List.getElem?_eq_some_iff.1 hy
    simp [cuC, hi2]
    rw [wrapN (by omega)]
    refine postD.mk (i := i + 1) (res := .int .i64 ?x1) hi2 rfl ?hpost1 ?hq1
    case hpost1 => simp; rfl
    exact ⟨_, rfl, (and255 _).1, (and255 _).2⟩
  · simp [cuC, hi2]
    refine postD.mk (i := i) (res := .int .i64 ?x2) hi rfl ?hpost2 ?hq2
    case hpost2 => simp; rfl
    exact ⟨_, rfl, (and255 _).1, (and255 _).2⟩

theorem d_l1Below {code : List UInt8} (hc : code.length ≤ 1048576) (n : Int) (h1 : 0 < n) (h2 : n ≤ 256) : Dr code 60 [.int .i64 n] (inR 0 (n - 1)) := by
  refine Dr.intro Try.func60 rfl rfl (by decide) rfl rfl (by kernel_rfl) ?_
  intro i h hi C sn A g0 F0 w0 hG
  simp [show ¬ n ≤ 0 by omega, h2]
  refine CallK.dr (d_l1Byte hc) rfl rfl rfl hi (by simp) (by simp) ?_
  rintro _ i h ⟨x, rfl, x0, x1⟩ hi
  simp [show n ≠ 0 by omega]
  refine postD.mk (i := i) (res := .int .i64 ?x3) hi rfl ?hpost3 ?hq3
  case hpost3 => simp; rfl
  refine ⟨_, rfl, ?_, ?_⟩
  · exact Int.tmod_nonneg _ x0
  · have := Int.tmod_lt_of_pos x h1; omega

theorem d_l1BelowBig {code : List UInt8} (hc : code.length ≤ 1048576) (n : Int) (h1 : 256 < n) : Dr code 60 [.int .i64 n] (inR 0 (n - 1)) := by
  refine Dr.intro Try.func60 rfl rfl (by decide) rfl rfl (by kernel_rfl) ?_
  intro i h hi C sn A g0 F0 w0 hG
  simp [show ¬ n ≤ 0 by omega, show ¬ n ≤ 256 by omega]
  refine CallK.dr (d_l1Byte hc) rfl rfl rfl hi (by simp) (by simp) ?_
  rintro _ i h ⟨x, rfl, x0, x1⟩ hi
  simp
  refine CallK.dr (d_l1Byte hc) rfl rfl rfl hi (by simp) (by simp) ?_
  rintro _ i h ⟨y, rfl, y0, y1⟩ hi
  simp
  refine CallK.dr (d_l1Byte hc) rfl rfl rfl hi (by simp) (by simp) ?_
  rintro _ i h ⟨z, rfl, z0, z1⟩ hi
  simp
  refine CallK.dr (d_l1Byte hc) rfl rfl rfl hi (by simp) (by simp) ?_
  rintro _ i h ⟨w, rfl, w0, w1⟩ hi
  simp (disch := first | omega | assumption | (simp; done) | fail) [wrapi64, show n ≠ 0 by omega]
  refine postD.mk (i := i) (res := .int .i64 ?x4) hi rfl ?hpost4 ?hq4
  case hpost4 => simp; rfl
  refine ⟨_, rfl, ?_, ?_⟩
  · exact Int.tmod_nonneg _ (by omega)
  · have := Int.tmod_lt_of_pos (x * 16777216 + y * 65536 + z * 256 + w) (show 0 < n by omega); omega

theorem d_l1Once {code : List UInt8} (hc : code.length ≤ 1048576) (n : Int) (h1 : 0 < n) (h2 : n ≤ 256) : Dr code 61 [.int .i64 n] isB := by
  refine Dr.intro Try.func61 rfl rfl (by decide) rfl rfl (by kernel_rfl) ?_
  intro i h hi C sn A g0 F0 w0 hG
  simp
  refine CallK.dr (d_l1Below hc n h1 h2) rfl rfl rfl hi (by simp) (by simp) ?_
  rintro _ i h ⟨x, rfl, x0, x1⟩ hi
  simp
  refine postD.mk (i := i) (res := .bool ?x5) hi rfl ?hpost5 ?hq5
  case hpost5 => simp; rfl
  exact ⟨_, rfl⟩

theorem d_l1Pick {C : Cx} {roots : List Root} {k l g n : Nat} {code : List UInt8} {i : Nat} {h : Int} {rows : List (List VV)} (hc : code.length ≤ 1048576) (hi : i ≤ code.length) (hk : roots[k]? = some (.box (cuC code i h))) (hl : roots[l]? = some (.arr g true 1 rows)) (hkl : k ≠ l)
    (hn : rows.length = n) (hn0 : 0 < n) (hn1 : n ≤ 256) (hr : ∀ r ∈ rows, ∃ s, r = [.str s]) {K : VV → List Root → Prop} (hK : ∀ s i' h', [.str s] ∈ rows → i' ≤ code.length → K (.str s) (roots.set k (.box (cuC code i' h')))) : VCall L0 Try.prog C 81 [.ptr k 0 0 0, .rs l g 0 n] roots K := by
  refine VCall.inline T0_ok fo Try.func81 rfl rfl (by decide) rfl rfl (by kernel_rfl) ?_
  intro g0 F0 w0 hG
  have hlt := lt_get hk
  simp [hl, hn]
  refine CallK.dr (d_l1Below hc (n : Int) (by omega) (by omega)) rfl rfl hk hi (by simp) (by simp) ?_
  rintro _ i h ⟨x, rfl, x0, x1⟩ hi
  obtain ⟨m, rfl⟩ := Int.eq_ofNat_of_zero_le x0
  have hm : m < rows.length := by omega
  obtain ⟨s, hs⟩ := hr _ (List.getElem_mem hm)
  have hs' : rows[m]? = some [.str s] := by rw [List.getElem?_eq_getElem hm, hs]
  simp [hl, List.getElem?_set_ne hkl, hs, hm, show m < n by omega, hn]
  exact hK s i h (hs ▸ List.getElem_mem hm) hi

theorem d_l1PickInt {C : Cx} {roots : List Root} {k l g n : Nat} {code : List UInt8} {i : Nat} {h : Int} {rows : List (List VV)} (hc : code.length ≤ 1048576) (hi : i ≤ code.length) (hk : roots[k]? = some (.box (cuC code i h))) (hl : roots[l]? = some (.arr g true 1 rows)) (hkl : k ≠ l)
    (hn : rows.length = n) (hn0 : 0 < n) (hn1 : n ≤ 256) (hr : ∀ r ∈ rows, ∃ s, r = [.int .i64 s]) {K : VV → List Root → Prop} (hK : ∀ s i' h', [.int .i64 s] ∈ rows → i' ≤ code.length → K (.int .i64 s) (roots.set k (.box (cuC code i' h')))) : VCall L0 Try.prog C 102 [.ptr k 0 0 0, .rs l g 0 n] roots K := by
  refine VCall.inline T0_ok fo Try.func102 rfl rfl (by decide) rfl rfl (by kernel_rfl) ?_
  intro g0 F0 w0 hG
  have hlt := lt_get hk
  simp [hl, hn]
  refine CallK.dr (d_l1Below hc (n : Int) (by omega) (by omega)) rfl rfl hk hi (by simp) (by simp) ?_
  rintro _ i h ⟨x, rfl, x0, x1⟩ hi
  obtain ⟨m, rfl⟩ := Int.eq_ofNat_of_zero_le x0
  have hm : m < rows.length := by omega
  obtain ⟨s, hs⟩ := hr _ (List.getElem_mem hm)
  have hs' : rows[m]? = some [.int .i64 s] := by rw [List.getElem?_eq_getElem hm, hs]
  simp [hl, List.getElem?_set_ne hkl, hs, hm, show m < n by omega, hn]
  exact hK s i h (hs ▸ List.getElem_mem hm) hi

theorem CallK.pick {E : Env0} {Q : Exit → St → Prop} {ks : List Fr} {env : List (Nat × VV)} {heap : List Root} {dst : Option Nat} {A : Array Oper} {r : List Oper} {k l g n : Nat} {code : List UInt8} {i : Nat} {h : Int} {rows : List (List VV)} (hL : E.L = L0) (hP : E.P = Try.prog) (hc : code.length ≤ 1048576) (hi : i ≤ code.length) (hk : heap[k]? = some (.box (cuC code i h))) (hl : heap[l]? = some (.arr g true 1 rows)) (hkl : k ≠ l)
    (hn : rows.length = n) (hn0 : 0 < n) (hn1 : n ≤ 256) (hr : ∀ r ∈ rows, ∃ s, r = [.str s]) (hK : ∀ s i' h', [.str s] ∈ rows → i' ≤ code.length → VS E (.ops A r :: ks) Q .normal (dput dst (.str s) env) (heap.set k (.box (cuC code i' h')))) : CallK E 81 [.ptr k 0 0 0, .rs l g 0 n] dst A r ks Q env heap := by
  refine CallK.mk ?_
  rw [hL, hP]
  exact d_l1Pick hc hi hk hl hkl hn hn0 hn1 hr hK

theorem CallK.pickI {E : Env0} {Q : Exit → St → Prop} {ks : List Fr} {env : List (Nat × VV)} {heap : List Root} {dst : Option Nat} {A : Array Oper} {r : List Oper} {k l g n : Nat} {code : List UInt8} {i : Nat} {h : Int} {rows : List (List VV)} (hL : E.L = L0) (hP : E.P = Try.prog) (hc : code.length ≤ 1048576) (hi : i ≤ code.length) (hk : heap[k]? = some (.box (cuC code i h))) (hl : heap[l]? = some (.arr g true 1 rows)) (hkl : k ≠ l)
    (hn : rows.length = n) (hn0 : 0 < n) (hn1 : n ≤ 256) (hr : ∀ r ∈ rows, ∃ s, r = [.int .i64 s]) (hK : ∀ s i' h', [.int .i64 s] ∈ rows → i' ≤ code.length → VS E (.ops A r :: ks) Q .normal (dput dst (.int .i64 s) env) (heap.set k (.box (cuC code i' h')))) : CallK E 102 [.ptr k 0 0 0, .rs l g 0 n] dst A r ks Q env heap := by
  refine CallK.mk ?_
  rw [hL, hP]
  exact d_l1PickInt hc hi hk hl hkl hn hn0 hn1 hr hK

theorem d_l2Name {code : List UInt8} (hc : code.length ≤ 1048576) : Dr code 80 [] (isS 64) := by
  refine Dr.intro Try.func80 rfl rfl (by decide) rfl rfl (by kernel_rfl) ?_
  intro i h hi C sn A g0 F0 w0 hG
  simp
  refine CallK.pick rfl rfl hc hi rfl rfl (by decide) rfl (by decide) (by decide) (by simp) ?_
  intro s i h hs hi
  simp
  refine postD.mk (i := i) (res := .str ?x6) hi rfl ?hpost6 ?hq6
  case hpost6 => simp; rfl
  refine ⟨_, rfl, ?_⟩
  simp at hs
  rcases hs with hs | hs | hs | hs | hs | hs | hs <;> subst hs <;> decide

theorem d_l7Body {code : List UInt8} (hc : code.length ≤ 1048576) : Dr code 82 [] (isS 64) := by
  refine Dr.intro Try.func82 rfl rfl (by decide) rfl rfl (by kernel_rfl) ?_
  intro i h hi C sn A g0 F0 w0 hG
  simp
  refine CallK.pick rfl rfl hc hi rfl rfl (by decide) rfl (by decide) (by decide) (by simp) ?_
  intro s i h hs hi
  simp
  refine postD.mk (i := i) (res := .str ?x7) hi rfl ?hpost7 ?hq7
  case hpost7 => simp; rfl
  refine ⟨_, rfl, ?_⟩
  simp at hs
  rcases hs with hs | hs | hs | hs | hs | hs | hs <;> subst hs <;> decide

theorem d_l5Bits {code : List UInt8} (hc : code.length ≤ 1048576) : Dr code 105 [] isI := by
  refine Dr.intro Try.func105 rfl rfl (by decide) rfl rfl (by kernel_rfl) ?_
  intro i h hi C sn A g0 F0 w0 hG
  simp
  refine CallK.dr (d_l1Once hc 12 (by decide) (by decide)) rfl rfl rfl hi (by simp) (by simp) ?_
  rintro _ i h ⟨x, rfl⟩ hi
  cases x
  · simp
    refine CallK.dr (d_l1Below hc 32 (by decide) (by decide)) rfl rfl rfl hi (by simp) (by simp) ?_
    rintro _ i h ⟨x, rfl, x0, x1⟩ hi
    simp
    refine postD.mk (i := i) (res := .int .i64 ?x8) hi rfl ?hpost8 ?hq8
    case hpost8 => simp; rfl
    exact ⟨_, rfl, by unfold i64; omega⟩
  · simp
    refine CallK.pickI rfl rfl hc hi rfl rfl (by decide) rfl (by decide) (by decide) (by simp) ?_
    intro s i h hs hi
    simp
    refine postD.mk (i := i) (res := .int .i64 ?x9) hi rfl ?hpost9 ?hq9
    case hpost9 => simp; rfl
    refine ⟨_, rfl, ?_⟩
    simp at hs
    unfold i64
    omega

theorem d_l1Whole {code : List UInt8} (hc : code.length ≤ 1048576) : Dr code 104 [] isI := by
  refine Dr.intro Try.func104 rfl rfl (by decide) rfl rfl (by kernel_rfl) ?_
  intro i h hi C sn A g0 F0 w0 hG
  simp
  refine CallK.dr (d_l1Below hc 3 (by decide) (by decide)) rfl rfl rfl hi (by simp) (by simp) ?_
  rintro _ i h ⟨x, rfl, x0, x1⟩ hi
  have : x = 0 ∨ x = 1 ∨ x = 2 := by omega
  rcases this with rfl | rfl | rfl
  · simp
    refine CallK.pickI rfl rfl hc hi rfl rfl (by decide) rfl (by decide) (by decide) (by simp) ?_
    intro s i h hs hi
    simp
    refine postD.mk (i := i) (res := .int .i64 ?x10) hi rfl ?hpost10 ?hq10
    case hpost10 => simp; rfl
    refine ⟨_, rfl, ?_⟩
    simp at hs
    unfold i64
    omega
  · simp
    refine CallK.dr (d_l1BelowBig hc 1000000 (by decide)) rfl rfl rfl hi (by simp) (by simp) ?_
    rintro _ i h ⟨x, rfl, x0, x1⟩ hi
    simp (disch := first | omega | assumption | (simp; done) | fail) [wrapi64]
    refine postD.mk (i := i) (res := .int .i64 ?x11) hi rfl ?hpost11 ?hq11
    case hpost11 => simp; rfl
    exact ⟨_, rfl, by unfold i64; omega⟩
  · simp
    refine CallK.dr (d_l1Below hc 20 (by decide) (by decide)) rfl rfl rfl hi (by simp) (by simp) ?_
    rintro _ i h ⟨x, rfl, x0, x1⟩ hi
    simp
    refine postD.mk (i := i) (res := .int .i64 ?x12) hi rfl ?hpost12 ?hq12
    case hpost12 => simp; rfl
    exact ⟨_, rfl, by unfold i64; omega⟩

theorem d_l1Bytes {code : List UInt8} (hc : code.length ≤ 1048576) (n : Nat) (hn : n ≤ 64) : Dr code 118 [.int .i64 n] (fun r => ∃ s : List UInt8, r = .tr 1 (s.map byteRow) ∧ s.length ≤ 64) := by
  refine Dr.intro Try.func118 rfl rfl (by decide) rfl rfl (by kernel_rfl) ?_
  intro i h hi C sn A g0 F0 w0 hG
  simp
  refine LoopK.times T0_ok fo n (fun m (p : List UInt8 × Nat × Int × Nat) => ⟨[(0, .ptr 1 0 0 0), (1, .int .i64 n), (5, .rs 2 p.2.2.2 0 p.1.length), (6, .int .i64 m)], [.frame sn A, .box (cuC code p.2.1 p.2.2.1), .arr p.2.2.2 true 1 (p.1.map byteRow)]⟩) (fun m p => p.1.length = m ∧ p.2.1 ≤ code.length) ([], i, h, 0) (fun _ _ => rfl) (by simp) (by simpa using hi) ?_ ?_
  · rintro m ⟨s, i, h, g⟩ hm ⟨rfl, hi⟩
    simp only at hm hi
    simp (disch := first | omega | assumption | (simp; done) | fail) [wrapi64, hm]
    refine CallK.dr (d_l1Byte hc) rfl rfl rfl hi (by simp) (by simp) ?_
    rintro _ i h ⟨x, rfl, x0, x1⟩ hi
    obtain ⟨y, rfl⟩ := Int.eq_ofNat_of_zero_le x0
    simp (disch := first | omega | assumption | (simp; done) | fail) [wrapi64, wrapu8]
    refine ⟨by omega, s ++ [UInt8.ofNat y], i, ⟨h, _, ⟨rfl, by simp⟩, rfl, rfl, by simp [Nat.mod_eq_of_lt (show y < 256 by omega)]⟩, by simp, hi⟩
  · rintro ⟨s, i, h, g⟩ ⟨rfl, hi⟩
    simp
    refine postD.mk (i := i) (res := .tr 1 (s.map byteRow)) hi rfl ?hpost13 ?hq13
    case hpost13 => simp
    exact ⟨s, rfl, hn⟩


theorem mapM_byte : ∀ s : List UInt8, List.mapM (byteOf1 ∘ byteRow) s = some s
  | [] => rfl
  | b :: s => by simp [mapM_byte s]
theorem d_l2Any {code : List UInt8} (hc : code.length ≤ 1048576) : Dr code 106 [] (isS 64) := by
  refine Dr.intro Try.func106 rfl rfl (by decide) rfl rfl (by kernel_rfl) ?_
  intro i h hi C sn A g0 F0 w0 hG
  simp
  refine CallK.dr (d_l1Below hc 4 (by decide) (by decide)) rfl rfl rfl hi (by simp) (by simp) ?_
  rintro _ i h ⟨x, rfl, x0, x1⟩ hi
  have : x = 0 ∨ x = 1 ∨ x = 2 ∨ x = 3 := by omega
  rcases this with rfl | rfl | rfl | rfl
  · simp
    refine CallK.pick rfl rfl hc hi rfl rfl (by decide) rfl (by decide) (by decide) (by simp) ?_
    intro s i h hs hi
    simp
    refine postD.mk (i := i) (res := .str ?x14) hi rfl ?hpost14 ?hq14
    case hpost14 => simp; rfl
    refine ⟨_, rfl, ?_⟩
    simp at hs
    rcases hs with hs | hs | hs | hs | hs | hs | hs | hs | hs | hs | hs | hs | hs | hs | hs | hs | hs <;> subst hs <;> decide
  · simp
    refine CallK.dr (d_l1Below hc 4 (by decide) (by decide)) rfl rfl rfl hi (by simp) (by simp) ?_
    rintro _ i h ⟨x, rfl, x0, x1⟩ hi
    obtain ⟨n, rfl⟩ := Int.eq_ofNat_of_zero_le x0
    simp
    refine CallK.dr (d_l1Bytes hc n (by omega)) rfl rfl rfl hi (by simp) (by simp) ?_
    rintro _ i h ⟨s, rfl, hs⟩ hi
    simp [mapM_byte]
    refine postD.mk (i := i) (res := .str ?x15) hi rfl ?hpost15 ?hq15
    case hpost15 => simp; rfl
    exact ⟨_, rfl, hs⟩
  · simp
    refine CallK.dr (d_l2Name hc) rfl rfl rfl hi (by simp) (by simp) ?_
    rintro _ i h ⟨s, rfl, hs⟩ hi
    simp
    refine postD.mk (i := i) (res := .str ?x16) hi rfl ?hpost16 ?hq16
    case hpost16 => simp; rfl
    exact ⟨_, rfl, hs⟩
  · simp
    refine CallK.dr (d_l2Name hc) rfl rfl rfl hi (by simp) (by simp) ?_
    rintro _ i h ⟨s, rfl, hs⟩ hi
    simp
    refine postD.mk (i := i) (res := .str ?x17) hi rfl ?hpost17 ?hq17
    case hpost17 => simp; rfl
    exact ⟨_, rfl, hs⟩

def drawnR (r : XReply) : Prop := i64 r.fKind ∧ i64 r.fN ∧ i64 r.fUid ∧ i64 r.fFlags ∧ r.fName.length ≤ 64 ∧ r.fText.length ≤ 64
def isR (v : VV) : Prop := ∃ r : XReply, v = .agg r.cells ∧ drawnR r

theorem c_l14Named (k : Int) : PC L0 Try.prog 79 [.int .i64 k] (.bool (decide (5 ≤ k ∧ k ≤ 8))) := by
  refine PC.intro T0_ok fo Try.func79 rfl rfl (by decide) rfl rfl (by kernel_rfl) ?_
  intro C sn A g0 F0 w0 hG
  simp
  refine CallK.pureS (c_l1In _ _ _) (by simp) (by simp) ?_
  simp
set_option maxHeartbeats 4000000 in
theorem d_l14Right {code : List UInt8} (hc : code.length ≤ 1048576) : Dr code 62 [] isR := by
  refine Dr.intro Try.func62 rfl rfl (by decide) rfl rfl (by kernel_rfl) ?_
  intro i h hi C sn A g0 F0 w0 hG
  simp
  refine CallK.dr (d_l1Below hc 16 (by decide) (by decide)) rfl rfl rfl hi (by simp) (by simp) ?_
  rintro _ i h ⟨x, rfl, x0, x1⟩ hi
  have : x = 0 ∨ x = 1 ∨ x = 2 ∨ x = 3 ∨ x = 4 ∨ x = 5 ∨ x = 6 ∨ x = 7 ∨ x = 8 ∨ x = 9 ∨ x = 10 ∨ x = 11 ∨ x = 12 ∨ x = 13 ∨ x = 14 ∨ x = 15 := by omega
  rcases this with rfl | rfl | rfl | rfl | rfl | rfl | rfl | rfl | rfl | rfl | rfl | rfl | rfl | rfl | rfl | rfl
  · simp (disch := first | omega | assumption | (simp; done) | fail) [wrapi64]
    refine CallK.pureS (c_l1In _ _ _) (by simp) (by simp) ?_
    simp (disch := first | omega | assumption | (simp; done) | fail) [wrapi64]
    refine CallK.dr (d_l1Below hc 7 (by decide) (by decide)) rfl rfl rfl hi (by simp) (by simp) ?_
    rintro _ i h ⟨a, rfl, a0, a1⟩ hi
    simp (disch := first | omega | assumption | (simp; done) | fail) [wrapi64]
    refine CallK.pureS (c_l14Named _) (by simp) (by simp) ?_
    simp (disch := first | omega | assumption | (simp; done) | fail) [wrapi64]
    refine CallK.pureS (c_l14Tagged _) (by simp) (by simp) ?_
    simp (disch := first | omega | assumption | (simp; done) | fail) [wrapi64]
    refine postD.mk (i := i) (res := .agg (XReply.cells ⟨1, (1 + a), 0, 0, [], []⟩)) hi rfl ?hpost18 ?hq18
    case hpost18 => simp
    refine ⟨_, rfl, ?_, ?_, ?_, ?_, ?_, ?_⟩ <;> simp <;> omega
  · simp (disch := first | omega | assumption | (simp; done) | fail) [wrapi64]
    refine CallK.pureS (c_l1In _ _ _) (by simp) (by simp) ?_
    simp (disch := first | omega | assumption | (simp; done) | fail) [wrapi64]
    refine CallK.dr (d_l1Below hc 7 (by decide) (by decide)) rfl rfl rfl hi (by simp) (by simp) ?_
    rintro _ i h ⟨a, rfl, a0, a1⟩ hi
    simp (disch := first | omega | assumption | (simp; done) | fail) [wrapi64]
    refine CallK.pureS (c_l14Named _) (by simp) (by simp) ?_
    simp (disch := first | omega | assumption | (simp; done) | fail) [wrapi64]
    refine CallK.pureS (c_l14Tagged _) (by simp) (by simp) ?_
    simp (disch := first | omega | assumption | (simp; done) | fail) [wrapi64]
    refine postD.mk (i := i) (res := .agg (XReply.cells ⟨2, (1 + a), 0, 0, [], []⟩)) hi rfl ?hpost19 ?hq19
    case hpost19 => simp
    refine ⟨_, rfl, ?_, ?_, ?_, ?_, ?_, ?_⟩ <;> simp <;> omega
  · simp (disch := first | omega | assumption | (simp; done) | fail) [wrapi64]
    refine CallK.pureS (c_l1In _ _ _) (by simp) (by simp) ?_
    simp (disch := first | omega | assumption | (simp; done) | fail) [wrapi64]
    refine CallK.dr (d_l1Below hc 7 (by decide) (by decide)) rfl rfl rfl hi (by simp) (by simp) ?_
    rintro _ i h ⟨a, rfl, a0, a1⟩ hi
    simp (disch := first | omega | assumption | (simp; done) | fail) [wrapi64]
    refine CallK.dr (d_l1Below hc 9 (by decide) (by decide)) rfl rfl rfl hi (by simp) (by simp) ?_
    rintro _ i h ⟨b, rfl, b0, b1⟩ hi
    simp (disch := first | omega | assumption | (simp; done) | fail) [wrapi64]
    refine CallK.pureS (c_l14Named _) (by simp) (by simp) ?_
    simp (disch := first | omega | assumption | (simp; done) | fail) [wrapi64]
    refine CallK.pureS (c_l14Tagged _) (by simp) (by simp) ?_
    simp (disch := first | omega | assumption | (simp; done) | fail) [wrapi64]
    refine CallK.dr (d_l1Below hc 32 (by decide) (by decide)) rfl rfl rfl hi (by simp) (by simp) ?_
    rintro _ i h ⟨c, rfl, c0, c1⟩ hi
    simp (disch := first | omega | assumption | (simp; done) | fail) [wrapi64]
    refine postD.mk (i := i) (res := .agg (XReply.cells ⟨3, (1 + a), (1 + b), c, [], []⟩)) hi rfl ?hpost20 ?hq20
    case hpost20 => simp
    refine ⟨_, rfl, ?_, ?_, ?_, ?_, ?_, ?_⟩ <;> simp <;> omega
  · simp (disch := first | omega | assumption | (simp; done) | fail) [wrapi64]
    refine CallK.pureS (c_l1In _ _ _) (by simp) (by simp) ?_
    simp (disch := first | omega | assumption | (simp; done) | fail) [wrapi64]
    refine CallK.dr (d_l1Below hc 7 (by decide) (by decide)) rfl rfl rfl hi (by simp) (by simp) ?_
    rintro _ i h ⟨a, rfl, a0, a1⟩ hi
    simp (disch := first | omega | assumption | (simp; done) | fail) [wrapi64]
    refine CallK.pureS (c_l14Named _) (by simp) (by simp) ?_
    simp (disch := first | omega | assumption | (simp; done) | fail) [wrapi64]
    refine CallK.pureS (c_l14Tagged _) (by simp) (by simp) ?_
    simp (disch := first | omega | assumption | (simp; done) | fail) [wrapi64]
    refine CallK.dr (d_l7Body hc) rfl rfl rfl hi (by simp) (by simp) ?_
    rintro _ i h ⟨t, rfl, ht⟩ hi
    simp (disch := first | omega | assumption | (simp; done) | fail) [wrapi64]
    refine postD.mk (i := i) (res := .agg (XReply.cells ⟨4, (1 + a), 0, 0, [], t⟩)) hi rfl ?hpost21 ?hq21
    case hpost21 => simp
    refine ⟨_, rfl, ?_, ?_, ?_, ?_, ?_, ?_⟩ <;> simp <;> omega
  · simp (disch := first | omega | assumption | (simp; done) | fail) [wrapi64]
    refine CallK.pureS (c_l1In _ _ _) (by simp) (by simp) ?_
    simp (disch := first | omega | assumption | (simp; done) | fail) [wrapi64]
    refine CallK.dr (d_l1Below hc 7 (by decide) (by decide)) rfl rfl rfl hi (by simp) (by simp) ?_
    rintro _ i h ⟨a, rfl, a0, a1⟩ hi
    simp (disch := first | omega | assumption | (simp; done) | fail) [wrapi64]
    refine CallK.dr (d_l1Below hc 9 (by decide) (by decide)) rfl rfl rfl hi (by simp) (by simp) ?_
    rintro _ i h ⟨b, rfl, b0, b1⟩ hi
    simp (disch := first | omega | assumption | (simp; done) | fail) [wrapi64]
    refine CallK.pureS (c_l14Named _) (by simp) (by simp) ?_
    simp (disch := first | omega | assumption | (simp; done) | fail) [wrapi64]
    refine CallK.dr (d_l2Name hc) rfl rfl rfl hi (by simp) (by simp) ?_
    rintro _ i h ⟨s, rfl, hs⟩ hi
    simp (disch := first | omega | assumption | (simp; done) | fail) [wrapi64]
    refine CallK.pureS (c_l14Tagged _) (by simp) (by simp) ?_
    simp (disch := first | omega | assumption | (simp; done) | fail) [wrapi64]
    refine postD.mk (i := i) (res := .agg (XReply.cells ⟨5, (1 + a), (1 + b), 0, s, []⟩)) hi rfl ?hpost22 ?hq22
    case hpost22 => simp
    refine ⟨_, rfl, ?_, ?_, ?_, ?_, ?_, ?_⟩ <;> simp <;> omega
  · simp (disch := first | omega | assumption | (simp; done) | fail) [wrapi64]
    refine CallK.pureS (c_l1In _ _ _) (by simp) (by simp) ?_
    simp (disch := first | omega | assumption | (simp; done) | fail) [wrapi64]
    refine CallK.pureS (c_l14Named _) (by simp) (by simp) ?_
    simp (disch := first | omega | assumption | (simp; done) | fail) [wrapi64]
    refine CallK.dr (d_l2Name hc) rfl rfl rfl hi (by simp) (by simp) ?_
    rintro _ i h ⟨s, rfl, hs⟩ hi
    simp (disch := first | omega | assumption | (simp; done) | fail) [wrapi64]
    refine CallK.pureS (c_l14Tagged _) (by simp) (by simp) ?_
    simp (disch := first | omega | assumption | (simp; done) | fail) [wrapi64]
    refine postD.mk (i := i) (res := .agg (XReply.cells ⟨6, 0, 0, 0, s, []⟩)) hi rfl ?hpost23 ?hq23
    case hpost23 => simp
    refine ⟨_, rfl, ?_, ?_, ?_, ?_, ?_, ?_⟩ <;> simp <;> omega
  · simp (disch := first | omega | assumption | (simp; done) | fail) [wrapi64]
    refine CallK.pureS (c_l1In _ _ _) (by simp) (by simp) ?_
    simp (disch := first | omega | assumption | (simp; done) | fail) [wrapi64]
    refine CallK.pureS (c_l14Named _) (by simp) (by simp) ?_
    simp (disch := first | omega | assumption | (simp; done) | fail) [wrapi64]
    refine CallK.dr (d_l2Name hc) rfl rfl rfl hi (by simp) (by simp) ?_
    rintro _ i h ⟨s, rfl, hs⟩ hi
    simp (disch := first | omega | assumption | (simp; done) | fail) [wrapi64]
    refine CallK.pureS (c_l14Tagged _) (by simp) (by simp) ?_
    simp (disch := first | omega | assumption | (simp; done) | fail) [wrapi64]
    refine postD.mk (i := i) (res := .agg (XReply.cells ⟨7, 0, 0, 0, s, []⟩)) hi rfl ?hpost24 ?hq24
    case hpost24 => simp
    refine ⟨_, rfl, ?_, ?_, ?_, ?_, ?_, ?_⟩ <;> simp <;> omega
  · simp (disch := first | omega | assumption | (simp; done) | fail) [wrapi64]
    refine CallK.pureS (c_l1In _ _ _) (by simp) (by simp) ?_
    simp (disch := first | omega | assumption | (simp; done) | fail) [wrapi64]
    refine CallK.dr (d_l1Below hc 7 (by decide) (by decide)) rfl rfl rfl hi (by simp) (by simp) ?_
    rintro _ i h ⟨a, rfl, a0, a1⟩ hi
    simp (disch := first | omega | assumption | (simp; done) | fail) [wrapi64]
    refine CallK.pureS (c_l14Named _) (by simp) (by simp) ?_
    simp (disch := first | omega | assumption | (simp; done) | fail) [wrapi64]
    refine CallK.dr (d_l2Name hc) rfl rfl rfl hi (by simp) (by simp) ?_
    rintro _ i h ⟨s, rfl, hs⟩ hi
    simp (disch := first | omega | assumption | (simp; done) | fail) [wrapi64]
    refine CallK.pureS (c_l14Tagged _) (by simp) (by simp) ?_
    simp (disch := first | omega | assumption | (simp; done) | fail) [wrapi64]
    refine postD.mk (i := i) (res := .agg (XReply.cells ⟨8, (1 + a), 0, 0, s, []⟩)) hi rfl ?hpost25 ?hq25
    case hpost25 => simp
    refine ⟨_, rfl, ?_, ?_, ?_, ?_, ?_, ?_⟩ <;> simp <;> omega
  · simp (disch := first | omega | assumption | (simp; done) | fail) [wrapi64]
    refine CallK.pureS (c_l1In _ _ _) (by simp) (by simp) ?_
    simp (disch := first | omega | assumption | (simp; done) | fail) [wrapi64]
    refine CallK.pureS (c_l14Named _) (by simp) (by simp) ?_
    simp (disch := first | omega | assumption | (simp; done) | fail) [wrapi64]
    refine CallK.pureS (c_l14Tagged _) (by simp) (by simp) ?_
    simp (disch := first | omega | assumption | (simp; done) | fail) [wrapi64]
    refine postD.mk (i := i) (res := .agg (XReply.cells ⟨9, 0, 0, 0, [], []⟩)) hi rfl ?hpost26 ?hq26
    case hpost26 => simp
    refine ⟨_, rfl, ?_, ?_, ?_, ?_, ?_, ?_⟩ <;> simp <;> omega
  · simp (disch := first | omega | assumption | (simp; done) | fail) [wrapi64]
    refine CallK.pureS (c_l1In _ _ _) (by simp) (by simp) ?_
    simp (disch := first | omega | assumption | (simp; done) | fail) [wrapi64]
    refine CallK.pureS (c_l14Named _) (by simp) (by simp) ?_
    simp (disch := first | omega | assumption | (simp; done) | fail) [wrapi64]
    refine CallK.pureS (c_l14Tagged _) (by simp) (by simp) ?_
    simp (disch := first | omega | assumption | (simp; done) | fail) [wrapi64]
    refine postD.mk (i := i) (res := .agg (XReply.cells ⟨10, 0, 0, 0, [], []⟩)) hi rfl ?hpost27 ?hq27
    case hpost27 => simp
    refine ⟨_, rfl, ?_, ?_, ?_, ?_, ?_, ?_⟩ <;> simp <;> omega
  · simp (disch := first | omega | assumption | (simp; done) | fail) [wrapi64]
    refine CallK.pureS (c_l1In _ _ _) (by simp) (by simp) ?_
    simp (disch := first | omega | assumption | (simp; done) | fail) [wrapi64]
    refine CallK.pureS (c_l14Named _) (by simp) (by simp) ?_
    simp (disch := first | omega | assumption | (simp; done) | fail) [wrapi64]
    refine CallK.pureS (c_l14Tagged _) (by simp) (by simp) ?_
    simp (disch := first | omega | assumption | (simp; done) | fail) [wrapi64]
    refine postD.mk (i := i) (res := .agg (XReply.cells ⟨11, 0, 0, 0, [], []⟩)) hi rfl ?hpost28 ?hq28
    case hpost28 => simp
    refine ⟨_, rfl, ?_, ?_, ?_, ?_, ?_, ?_⟩ <;> simp <;> omega
  · simp (disch := first | omega | assumption | (simp; done) | fail) [wrapi64]
    refine CallK.pureS (c_l1In _ _ _) (by simp) (by simp) ?_
    simp (disch := first | omega | assumption | (simp; done) | fail) [wrapi64]
    refine CallK.pureS (c_l14Named _) (by simp) (by simp) ?_
    simp (disch := first | omega | assumption | (simp; done) | fail) [wrapi64]
    refine CallK.pureS (c_l14Tagged _) (by simp) (by simp) ?_
    simp (disch := first | omega | assumption | (simp; done) | fail) [wrapi64]
    refine CallK.pick rfl rfl hc hi rfl rfl (by decide) rfl (by decide) (by decide) (by simp) ?_
    intro s i h hs hi
    simp (disch := first | omega | assumption | (simp; done) | fail) [wrapi64]
    have hs : s.length ≤ 64 := by
      simp at hs
      rcases hs with hs | hs | hs <;> subst hs <;> decide
    refine postD.mk (i := i) (res := .agg (XReply.cells ⟨12, 0, 0, 0, s, []⟩)) hi rfl ?hpost29 ?hq29
    case hpost29 => simp
    refine ⟨_, rfl, ?_, ?_, ?_, ?_, ?_, ?_⟩ <;> simp <;> omega
  · simp (disch := first | omega | assumption | (simp; done) | fail) [wrapi64]
    refine CallK.pureS (c_l1In _ _ _) (by simp) (by simp) ?_
    simp (disch := first | omega | assumption | (simp; done) | fail) [wrapi64]
    refine CallK.pureS (c_l14Named _) (by simp) (by simp) ?_
    simp (disch := first | omega | assumption | (simp; done) | fail) [wrapi64]
    refine CallK.pureS (c_l14Tagged _) (by simp) (by simp) ?_
    simp (disch := first | omega | assumption | (simp; done) | fail) [wrapi64]
    refine CallK.pick rfl rfl hc hi rfl rfl (by decide) rfl (by decide) (by decide) (by simp) ?_
    intro s i h hs hi
    simp (disch := first | omega | assumption | (simp; done) | fail) [wrapi64]
    have hs : s.length ≤ 64 := by
      simp at hs
      rcases hs with hs | hs | hs <;> subst hs <;> decide
    refine postD.mk (i := i) (res := .agg (XReply.cells ⟨13, 0, 0, 0, s, []⟩)) hi rfl ?hpost30 ?hq30
    case hpost30 => simp
    refine ⟨_, rfl, ?_, ?_, ?_, ?_, ?_, ?_⟩ <;> simp <;> omega
  · simp (disch := first | omega | assumption | (simp; done) | fail) [wrapi64]
    refine CallK.pureS (c_l1In _ _ _) (by simp) (by simp) ?_
    simp (disch := first | omega | assumption | (simp; done) | fail) [wrapi64]
    refine CallK.pureS (c_l14Named _) (by simp) (by simp) ?_
    simp (disch := first | omega | assumption | (simp; done) | fail) [wrapi64]
    refine CallK.pureS (c_l14Tagged _) (by simp) (by simp) ?_
    simp (disch := first | omega | assumption | (simp; done) | fail) [wrapi64]
    refine CallK.pick rfl rfl hc hi rfl rfl (by decide) rfl (by decide) (by decide) (by simp) ?_
    intro s i h hs hi
    simp (disch := first | omega | assumption | (simp; done) | fail) [wrapi64]
    have hs : s.length ≤ 64 := by
      simp at hs
      rcases hs with hs | hs | hs <;> subst hs <;> decide
    refine postD.mk (i := i) (res := .agg (XReply.cells ⟨14, 0, 0, 0, s, []⟩)) hi rfl ?hpost31 ?hq31
    case hpost31 => simp
    refine ⟨_, rfl, ?_, ?_, ?_, ?_, ?_, ?_⟩ <;> simp <;> omega
  · simp (disch := first | omega | assumption | (simp; done) | fail) [wrapi64]
    refine CallK.pureS (c_l1In _ _ _) (by simp) (by simp) ?_
    simp (disch := first | omega | assumption | (simp; done) | fail) [wrapi64]
    refine CallK.pureS (c_l14Named _) (by simp) (by simp) ?_
    simp (disch := first | omega | assumption | (simp; done) | fail) [wrapi64]
    refine CallK.pureS (c_l14Tagged _) (by simp) (by simp) ?_
    simp (disch := first | omega | assumption | (simp; done) | fail) [wrapi64]
    refine postD.mk (i := i) (res := .agg (XReply.cells ⟨15, 0, 0, 0, [], []⟩)) hi rfl ?hpost32 ?hq32
    case hpost32 => simp
    refine ⟨_, rfl, ?_, ?_, ?_, ?_, ?_, ?_⟩ <;> simp <;> omega
  · simp (disch := first | omega | assumption | (simp; done) | fail) [wrapi64]
    refine CallK.pureS (c_l1In _ _ _) (by simp) (by simp) ?_
    simp (disch := first | omega | assumption | (simp; done) | fail) [wrapi64]
    refine CallK.pureS (c_l14Named _) (by simp) (by simp) ?_
    simp (disch := first | omega | assumption | (simp; done) | fail) [wrapi64]
    refine CallK.pureS (c_l14Tagged _) (by simp) (by simp) ?_
    simp (disch := first | omega | assumption | (simp; done) | fail) [wrapi64]
    refine postD.mk (i := i) (res := .agg (XReply.cells ⟨16, 0, 0, 0, [], []⟩)) hi rfl ?hpost33 ?hq33
    case hpost33 => simp
    refine ⟨_, rfl, ?_, ?_, ?_, ?_, ?_, ?_⟩ <;> simp <;> omega
end Go.Proofs.YtjldkpggcjolcaaT
