/- Slices, strings, numbers: the pure operations. Conditions: the table of types fits the program. -/
import Derived.Test.YtjldkpggcjolcaaV3
namespace Go.Proofs.YtjldkpggcjolcaaV
set_option linter.unusedVariables false
set_option linter.unusedSimpArgs false

theorem flat_take {α : Type} (sz : Nat) : ∀ (rows : List (List α)), (∀ r ∈ rows, r.length = sz) → ∀ n, (rows.take n).flatten = rows.flatten.take (n * sz)
  | [], _, n => by simp
  | x :: rows, hs, 0 => by simp
  | x :: rows, hs, n + 1 => by
    have hx := hs x (by simp)
    rw [List.take_succ_cons, List.flatten_cons, List.flatten_cons, flat_take sz rows (fun y hy => hs y (by simp [hy])) n, show (n + 1) * sz = x.length + n * sz by rw [Nat.add_mul, hx]; omega,
      List.take_length_add_append]

theorem flat_drop {α : Type} (sz : Nat) : ∀ (rows : List (List α)), (∀ r ∈ rows, r.length = sz) → ∀ n, (rows.drop n).flatten = rows.flatten.drop (n * sz)
  | [], _, n => by simp
  | x :: rows, hs, 0 => by simp
  | x :: rows, hs, n + 1 => by
    have hx := hs x (by simp)
    rw [List.drop_succ_cons, List.flatten_cons, flat_drop sz rows (fun y hy => hs y (by simp [hy])) n, show (n + 1) * sz = x.length + n * sz by rw [Nat.add_mul, hx]; omega, List.drop_length_add_append]

section
variable {P : Program} {T : Tbl} {C : Cx} {roots : List Root} {gh : Nat → Gh} {Fk : Nat → List Nat} {X : List Nat} {w : World}

/-- The width of a slice's rows. -/
def szOf (roots : List Root) : VV → Option Nat
  | .sl _ sz _ => some sz
  | .rs k _ _ _ => match roots[k]? with
    | some (.arr _ _ sz _) => some sz
    | _ => none
  | _ => none

/-- A slice's value reads. -/
theorem rowsOf_ok (hr : HX C roots gh Fk X w) {c : VV} {v : Value} {rows : List (List VV)} (h : rowsOf roots c = some rows) (hv : VRs (okF w roots Fk X) w roots gh [c] [v]) :
    ∃ sz, RO (fun b => b < w.heap.size) w [.tr sz rows] [v] ∧ (∀ sz', szOf roots c = some sz' → sz' = sz) := by
  cases c with
  | nils =>
    simp only [rowsOf, Option.some.injEq] at h
    subst h
    cases hv with
    | sc hs _ => cases hs; exact ⟨0, .tr0 0 none 0 .nil, fun _ h => by simp [szOf] at h⟩
  | sl tag sz rows' =>
    simp only [rowsOf] at h
    split at h
    · rename_i ht
      cases h
      cases hv with
      | sc hs _ => cases hs
      | sl tag sz rows v ho hk hh t => exact ⟨sz, (hh ht).mono fun b hb => ⟨by cases tag <;> exact hb.1, rfl⟩, fun _ h => by simpa [szOf] using h.symm⟩
    · cases h
  | rs k g lo n =>
    simp only [rowsOf] at h
    split at h
    · rename_i g' own sz rows' hk'
      split at h
      · rename_i hg
        obtain ⟨rfl, hle⟩ := hg
        cases h
        cases hv with
        | sc hs _ => cases hs
        | rs k g lo n v ho hk hh t =>
        obtain ⟨a, c, rfl, ha, hnc, _⟩ := hh own sz rows' hk'
        have hlen : ((rows'.drop lo).take n).length = n := by simp; omega
        refine ⟨sz, ?_, fun _ h => by simp [szOf, hk'] at h; exact h.symm⟩
        by_cases hn0 : n = 0
        · subst hn0
          simp only [List.take_zero]
          exact .tr0 sz a c .nil
        · rw [ha hn0]
          obtain ⟨hsze, _, cur, e, fr, hb, hs, hn, hsz, hro⟩ := hr.arr1 hk' (fun e => by rw [e] at hle; simp at hle; omega)
          have hrange : ((rows'.drop lo).take n).flatten = (rows'.flatten.drop (lo * sz)).take (n * sz) := by
            rw [flat_take sz _ (fun r hr => by rw [hsze]; exact hsz r (List.mem_of_mem_drop hr)), flat_drop sz _ (fun r hr => by rw [hsze]; exact hsz r hr)]
          have hro2 := ((hro.split (lo * sz)).2.split (n * sz)).1
          rw [← hrange] at hro2
          have := @RO.tr (fun b => b < w.heap.size) w [] [] ((rows'.drop lo).take n) (gh k).b (lo * (gh k).sz) c sz (((cur.toList.take (rows'.length * (gh k).sz)).drop (lo * sz)).take (n * sz))
            (Array.getElem?_eq_some_iff.1 hb).1 (fun r hr => by rw [hsze]; exact hsz r (List.mem_of_mem_drop (List.mem_of_mem_take hr)))
            (fun q u hu => by
              rw [cell_blk hb]
              rw [List.getElem?_take] at hu
              split at hu
              · rw [List.getElem?_drop, List.getElem?_take] at hu
                split at hu
                · rw [← hsze]; exact hu
                · cases hu
              · cases hu) (by rw [hlen]; exact hnc) (hro2.mono fun b hb => ⟨by unfold tagOf at hb; split at hb <;> exact hb.1, rfl⟩) .nil
          rw [hlen] at this
          exact this
      · cases h
    · cases h
  | _ => simp [rowsOf] at h

/-- The value of a slice that reads. -/
theorem RO.slice {ok : Nat → Prop} {sz : Nat} {rows : List (List VV)} {v : Value} (h : RO ok w [.tr sz rows] [v]) : ∃ a cap, v = .slice a rows.length cap ∧ rows.length ≤ cap := by
  cases h with
  | sc h _ => cases h
  | tr0 sz a cap t => exact ⟨a, cap, rfl, Nat.zero_le _⟩
  | tr rows b off cap sz cells hok hsz hc hcap h t => exact ⟨_, cap, rfl, hcap⟩

def vlen (roots : List Root) : VV → Option VV
  | .str s => some (.int .i64 s.length)
  | c => (rowsOf roots c).map fun rows => .int .i64 rows.length

def vindexAddr (roots : List Root) (esz : Nat) (c : VV) (i : Int) : Option VV :=
  match c with
  | .sl tag sz rows => if tagOk roots tag ∧ 0 ≤ i ∧ sz = esz then (rows[i.toNat]?).map fun r => .rp tag r 0 else none
  | .rs k g lo n => match roots[k]? with
    | some (.arr g' _ sz rows) => if g = g' ∧ 0 ≤ i ∧ i.toNat < n ∧ lo + n ≤ rows.length ∧ sz = esz then some (.ptr k g (lo + i.toNat) 0) else none
    | _ => none
  | _ => none

theorem vindexAddr_ok (hr : HX C roots gh Fk X w) {t e : Nat} {esz : Nat} {ie : TI} (hte : P.underlying t = some (.slice e)) (he : TyOk P e ie) (hes : ie.size = esz) {c r : VV} {k : IntKind} {i : Int} {v : Value}
    (h : vindexAddr roots esz c i = some r) (hv : VRs (okF w roots Fk X) w roots gh [c] [v]) :
    ∃ u, (∀ w', (Instr.indexAt t v (.int k i)).run P w' = .ok u w') ∧ VRs (okF w roots Fk X) w roots gh [r] [u] := by
  subst hes
  cases c with
  | sl tag sz rows =>
    simp only [vindexAddr] at h
    split at h
    · rename_i hc
      obtain ⟨ht, hi0, rfl⟩ := hc
      simp only [Option.map_eq_some_iff] at h
      obtain ⟨row, hrow, rfl⟩ := h
      cases hv with
      | sc hs _ => cases hs
      | sl tag sz rows v ho hk hh t' =>
      have hlt := (List.getElem?_eq_some_iff.1 hrow).1
      cases hh ht with
      | sc hs _ => cases hs
      | tr0 sz a cap t => simp at hlt
      | tr rows b off cap sz cells hok hsz hcl hcap hf t'' =>
      have hil : i < (rows.length : Int) := by omega
      refine ⟨.pointer (some ⟨b, off + i.toNat * ie.size + 0, none⟩), fun w' => ?_, .rp tag row 0 _ rfl hk (fun _ => ⟨b, off + i.toNat * ie.size, _, rfl, hok, hf.row hsz hrow, ?_⟩) .nil⟩
      · simp [Instr.indexAt, asIntOf, run_underlying hte, hi0, hil, ty_size he, Addr.add_lit]
      · intro q u hu
        rw [List.getElem?_take] at hu
        split at hu
        · rw [List.getElem?_drop] at hu
          have := hcl _ _ hu
          rwa [← Nat.add_assoc] at this
        · cases hu
    · cases h
  | rs k' g lo n =>
    simp only [vindexAddr] at h
    split at h
    · rename_i g' own sz rows hk'
      split at h
      · rename_i hc
        obtain ⟨rfl, hi0, hin, hle, rfl⟩ := hc
        cases h
        cases hv with
        | sc hs _ => cases hs
        | rs k' g lo n v ho hk hh t' =>
        obtain ⟨a, c, rfl, ha, hnc, _⟩ := hh own _ rows hk'
        obtain ⟨hsze, _⟩ := hr.arr hk'
        have hil : i < (n : Int) := by omega
        rw [ha (by omega)]
        refine ⟨.pointer (some ⟨(gh k').b, (lo + i.toNat) * (gh k').sz + 0, none⟩), fun w' => ?_, .ptr k' g (lo + i.toNat) 0 _ rfl hk (fun cells hb => by rw [hk'] at hb; cases hb) (fun _ _ _ _ => rfl) .nil⟩
        simp [Instr.indexAt, asIntOf, run_underlying hte, hi0, hil, ty_size he, Addr.add_lit, hsze, Nat.add_mul]
      · cases h
    · cases h
  | _ => simp [vindexAddr] at h

/-- The part of a list from lo (0) to hi (its end). -/
def part2 {α : Type} (l : List α) (lo hi : Option Nat) : List α :=
  match lo, hi with
  | none, none => l
  | some a, none => l.drop a
  | none, some b => l.take b
  | some a, some b => (l.take b).drop a

def bound (n : Nat) : Option VV → Option (Option Nat)
  | none => some none
  | some (.int _ i) => if 0 ≤ i ∧ i ≤ n then some (some i.toNat) else none
  | _ => none

def vslice (roots : List Root) (esz : Nat) (c : VV) (lo hi : Option VV) : Option VV :=
  match c with
  | .str s => match bound s.length hi with
    | some h => match bound (h.getD s.length) lo with
      | some l => some (.str (part2 s l h))
      | none => none
    | none => none
  | .nils => none
  | .sl tag sz rows => if tagOk roots tag ∧ sz = esz then match bound rows.length hi with
    | some h => match bound (h.getD rows.length) lo with
      | some l => some (.sl tag sz (part2 rows l h))
      | none => none
    | none => none else none
  | .rs k g a n => match roots[k]? with
    | some (.arr g' _ sz rows) => if g = g' ∧ sz = esz then match bound n hi with
      | some h => match bound (h.getD n) lo with
        | some l => some (.rs k g (a + l.getD 0) (h.getD n - l.getD 0))
        | none => none
      | none => none else none
    | _ => none
  | _ => none

theorem part2_eq {α : Type} (l : List α) (lo hi : Option Nat) : part2 l lo hi = (l.take (hi.getD l.length)).drop (lo.getD 0) := by
  cases lo <;> cases hi <;> simp [part2]

/-- An operand that may be missing. -/
def OptR (ok : Option (Nat × Nat) → Nat → Prop) (w : World) (roots : List Root) (gh : Nat → Gh) : Option VV → Option Value → Prop
  | none, none => True
  | some c, some u => VRs ok w roots gh [c] [u]
  | _, _ => False

theorem bound_spec {n : Nat} {x : Option VV} {b : Option Nat} {v : Option Value} (h : bound n x = some b)
    (hv : OptR (okF w roots Fk X) w roots gh x v) :
    (x = none ∧ v = none ∧ b = none) ∨ ∃ k i, x = some (.int k i) ∧ v = some (.int k i) ∧ 0 ≤ i ∧ i ≤ n ∧ b = some i.toNat := by
  cases x with
  | none =>
    cases v with
    | none => simp [bound] at h; exact .inl ⟨rfl, rfl, h.symm⟩
    | some u => exact hv.elim
  | some c =>
    cases v with
    | none => exact hv.elim
    | some u =>
      cases c <;> simp [bound] at h
      cases hv with
      | sc hs _ => cases hs; exact .inr ⟨_, _, rfl, rfl, h.1.1, h.1.2, h.2.symm⟩

theorem run_sliceBound {k : IntKind} {i : Int} {y : Nat} {code : BoundsCode} {w' : World} (h0 : 0 ≤ i) (h1 : i ≤ y) : (Instr.sliceBound (.int k i) y code).run P w' = .ok i.toNat w' := by
  simp [Instr.sliceBound, asIntOf, h0, h1]

/-- What the bounds come to. -/
theorem run_bounds {isSlice : Bool} {len cap n : Nat} {lo hi : Option VV} {vlo vhi : Option Value} {l h : Option Nat} (hn : len ≤ n) (hcap : n ≤ cap) (hh : bound n hi = some h) (hl : bound (h.getD len) lo = some l)
    (hvl : OptR (okF w roots Fk X) w roots gh lo vlo) (hvh : OptR (okF w roots Fk X) w roots gh hi vhi) (w' : World) :
    (Instr.sliceBounds isSlice len cap vlo vhi none).run P w' = .ok (l.getD 0, h.getD len, cap) w' ∧ l.getD 0 ≤ h.getD len ∧ (h.getD len ≤ n) := by
  have H1 := bound_spec hh hvh
  have H2 := bound_spec hl hvl
  rcases H1 with ⟨rfl, rfl, rfl⟩ | ⟨k, i, rfl, rfl, h0, h1, rfl⟩
  · rcases H2 with ⟨rfl, rfl, rfl⟩ | ⟨k', i', rfl, rfl, h0', h1', rfl⟩
    · simp [Instr.sliceBounds]; omega
    · simp only [Option.getD_none] at h1'
      have := run_sliceBound (P := P) (k := k') (y := len) (code := .sliceB) (w' := w') h0' h1'
      simp [Instr.sliceBounds, this]; omega
  · have hb := fun code => run_sliceBound (P := P) (k := k) (y := cap) (code := code) (w' := w') h0 (show i ≤ (cap : Int) by omega)
    rcases H2 with ⟨rfl, rfl, rfl⟩ | ⟨k', i', rfl, rfl, h0', h1', rfl⟩
    · simp [Instr.sliceBounds, hb]; omega
    · simp only [Option.getD_some] at h1'
      have := run_sliceBound (P := P) (k := k') (y := i.toNat) (code := .sliceB) (w' := w') h0' h1'
      simp [Instr.sliceBounds, hb, this]; omega

theorem RO.part {ok : Nat → Prop} {sz : Nat} {rows : List (List VV)} {a : Option Addr} {cap n : Nat} (h : RO ok w [.tr sz rows] [.slice a n cap]) {l m : Nat} (hlm : l ≤ m) (hm : m ≤ rows.length) :
    RO ok w [.tr sz ((rows.take m).drop l)] [.slice (if cap = l then a else a.map (·.add (l * sz))) (m - l) (cap - l)] := by
  cases h with
  | sc h _ => cases h
  | tr0 sz a cap t =>
    have : m = 0 := by simpa using hm
    subst this
    simp only [List.take_zero, List.drop_nil, Nat.zero_sub]
    exact .tr0 _ _ _ .nil
  | tr rows b off cap sz cells hok hsz hc hcap h t =>
    have hlen : ((rows.take m).drop l).length = m - l := by simp; omega
    by_cases he : m - l = 0
    · have : (rows.take m).drop l = [] := List.eq_nil_of_length_eq_zero (by rw [hlen]; exact he)
      rw [this, he]
      exact .tr0 _ _ _ .nil
    · rw [if_neg (by omega)]
      have hf : ((rows.take m).drop l).flatten = (rows.flatten.take (m * sz)).drop (l * sz) := by
        rw [flat_drop sz _ (fun r hr => hsz r (List.mem_of_mem_take hr)), flat_take sz _ hsz]
      have h2 := ((h.split (m * sz)).1.split (l * sz)).2
      rw [← hf] at h2
      have := @RO.tr ok w [] [] ((rows.take m).drop l) b (off + l * sz) (cap - l) sz _ hok (fun r hr => hsz r (List.mem_of_mem_take (List.mem_of_mem_drop hr))) (fun q u hu => by
        rw [List.getElem?_drop, List.getElem?_take] at hu
        split at hu
        · rw [Nat.add_assoc]; exact hc _ _ hu
        · cases hu) (by rw [hlen]; omega) h2 .nil
      rw [hlen] at this
      simpa [Addr.add_lit] using this

def isStr : VV → Bool
  | .str _ => true
  | _ => false

theorem vslice_ok (hr : HX C roots gh Fk X w) {t : Nat} {it : TI} (ht : TyOk P t it) {esz : Nat}
    (hty : it.k = .str ∨ ∃ e ie, it.k = .slice e ∧ TyOk P e ie ∧ ie.size = esz) {c r : VV} {lo hi : Option VV} {v : Value} {vlo vhi : Option Value}
    (h : vslice roots esz c lo hi = some r) (hv : VRs (okF w roots Fk X) w roots gh [c] [v]) (hvl : OptR (okF w roots Fk X) w roots gh lo vlo) (hvh : OptR (okF w roots Fk X) w roots gh hi vhi)
    (hk : isStr c = true ↔ it.k = .str) :
    ∃ u, (∀ w', (Instr.sliceAt t v vlo vhi none).run P w' = .ok u w') ∧ VRs (okF w roots Fk X) w roots gh [r] [u] := by
  obtain ⟨d, hd, hm⟩ := ht.desc
  cases c with
  | str s =>
    have hk := hk.1 rfl
    simp only [hk] at hm
    subst hm
    simp only [vslice] at h
    split at h
    · rename_i hh hbh
      split at h
      · rename_i ll hbl
        cases h
        cases hv with
        | sc hs _ =>
        cases hs
        have := fun w' => run_bounds (P := P) (isSlice := false) (cap := s.length) (Nat.le_refl _) (Nat.le_refl _) hbh hbl hvl hvh w'
        have hle := (this w).2
        refine ⟨_, fun w' => ?_, .sc (.str _) .nil⟩
        have hrun := (this w').1
        have hsz : (⟨s.toArray⟩ : ByteArray).size = s.length := by simp [ByteArray.size]
        simp only [Instr.sliceAt, Instr.slice, Sem.run_bind, run_underlying hd, Result.andThen_ok, hsz, hrun, Option.isSome_none, Bool.false_eq_true, if_false, Sem.run_pure]
        congr 2
        rw [part2_eq]
        apply ByteArray.ext
        rw [ByteArray.data_extract]
        simp [List.extract_eq_take_drop, List.drop_take]
      · cases h
    · cases h
  | sl tag sz rows =>
    rcases hty with hty | ⟨e, ie, hty, he, hes⟩
    · exact absurd (hk.2 hty) (by simp [isStr])
    simp only [hty] at hm
    subst hm
    simp only [vslice] at h
    by_cases hc : tagOk roots tag = true ∧ sz = esz
    · rw [if_pos hc] at h
      obtain ⟨htg, rfl⟩ := hc
      rcases hbh : bound rows.length hi with _ | hh
      · simp [hbh] at h
      · simp only [hbh] at h
        rcases hbl : bound (hh.getD rows.length) lo with _ | ll
        · simp [hbl] at h
        · simp only [hbl, Option.some.injEq] at h
          subst h
          cases hv with
          | sc hs _ => cases hs
          | sl tag sz rows v ho hk' hro t' =>
          obtain ⟨a, cap, rfl, hcap⟩ := (hro htg).slice
          have hb := fun w' => run_bounds (P := P) (isSlice := true) (Nat.le_refl _) hcap hbh hbl hvl hvh w'
          obtain ⟨_, hle1, hle2⟩ := hb w
          refine ⟨.slice (if cap = ll.getD 0 then a else a.map (·.add (ll.getD 0 * sz))) (hh.getD rows.length - ll.getD 0) (cap - ll.getD 0), fun w' => ?_, .sl tag sz _ _ rfl hk' (fun _ => ?_) .nil⟩
          rotate_left
          · rw [part2_eq]
            exact (hro htg).part hle1 hle2
          · have hrun := (hb w').1
            simp only [Instr.sliceAt, Instr.slice, Sem.run_bind, run_underlying hd, Result.andThen_ok, hrun, ty_size he, hes, Sem.run_pure]
    · rw [if_neg hc] at h; cases h
  | rs k g x n =>
    rcases hty with hty | ⟨e, ie, hty, he, hes⟩
    · exact absurd (hk.2 hty) (by simp [isStr])
    simp only [hty] at hm
    subst hm
    simp only [vslice] at h
    split at h
    · rename_i g' own sz rows hk'
      by_cases hc : g = g' ∧ sz = esz
      · rw [if_pos hc] at h
        obtain ⟨rfl, rfl⟩ := hc
        rcases hbh : bound n hi with _ | hh
        · simp [hbh] at h
        · simp only [hbh] at h
          rcases hbl : bound (hh.getD n) lo with _ | ll
          · simp [hbl] at h
          · simp only [hbl, Option.some.injEq] at h
            subst h
            cases hv with
            | sc hs _ => cases hs
            | rs k g x n v ho hg hro t' =>
            obtain ⟨a, cap, rfl, ha, hcap, ha0⟩ := hro own _ rows hk'
            obtain ⟨hsze, _⟩ := hr.arr hk'
            have hb := fun w' => run_bounds (P := P) (isSlice := true) (Nat.le_refl _) hcap hbh hbl hvl hvh w'
            obtain ⟨_, hle1, hle2⟩ := hb w
            refine ⟨.slice (if cap = ll.getD 0 then a else a.map (·.add (ll.getD 0 * sz))) (hh.getD n - ll.getD 0) (cap - ll.getD 0), fun w' => ?_, .rs k g _ _ _ rfl hg (fun own' sz' rows' hk2 => ⟨_, _, rfl, fun hne => ?_, by omega, fun h0 => ?_⟩) .nil⟩
            rotate_left
            · rw [if_neg (by omega), ha (by omega), ← hsze]
              simp [Addr.add_lit, Nat.add_mul]
            · have hx : x = 0 := by omega
              have hl : ll.getD 0 = 0 := by omega
              obtain ⟨h1, h2⟩ := ha0 hx
              rw [hl, h1, h2]
              simp [Addr.add]
            · have hrun := (hb w').1
              simp only [Instr.sliceAt, Instr.slice, Sem.run_bind, run_underlying hd, Result.andThen_ok, hrun, ty_size he, hes, Sem.run_pure]
      · rw [if_neg hc] at h; cases h
    · cases h
  | _ => simp [vslice] at h
end
end Go.Proofs.YtjldkpggcjolcaaV
