/- The machine does what the pure operations say. Conditions: the table of types fits the program. -/
import Derived.Test.YtjldkpggcjolcaaV6
import Derived.Laws.BytesString
namespace Go.Proofs.YtjldkpggcjolcaaV
set_option linter.unusedVariables false
set_option linter.unusedSimpArgs false

section
variable {P : Program} {T : Tbl} {C : Cx} {roots : List Root} {gh : Nat → Gh} {Fk : Nat → List Nat} {X : List Nat} {w : World} {env : List (Nat × VV)} {a : Act}

theorem isStr_spec {c : VV} (h : isStr c = true) : ∃ s, c = .str s := by
  cases c <;> first | (cases h; done) | exact ⟨_, rfl⟩

theorem evs (he : EnvR (okF w roots Fk X) w roots gh env a.tmps) : ∀ l : List Operand, VRs (okF w roots Fk X) w roots gh (l.map (ev env)) (l.map a.eval)
  | [] => .nil
  | x :: l => VRs.app (he.ev x) (evs he l)

theorem optR (he : EnvR (okF w roots Fk X) w roots gh env a.tmps) (x : Option Operand) : OptR (okF w roots Fk X) w roots gh (x.map (ev env)) (x.map a.eval) := by
  cases x with
  | none => trivial
  | some x => exact he.ev x

theorem vun_ok {op : UnOp} {c r : VV} {v : Value} (h : vun op c = some r) (hv : VRs (okF w roots Fk X) w roots gh [c] [v]) :
    ∃ u, (∀ w', (Op.unary op v).run P w' = .ok u w') ∧ VRs (okF w roots Fk X) w roots gh [r] [u] := by
  unfold vun at h
  split at h
  · obtain rfl := hv.int
    split at h
    · cases h; exact ⟨.int _ _, fun w' => rfl, .sc (.int _ _) .nil⟩
    · cases h
  · obtain rfl := hv.bool
    split at h
    · cases h; exact ⟨.bool _, fun w' => rfl, .sc (.bool _) .nil⟩
    · cases h
  · cases h

theorem vmm_ok {b : Builtin} {x y z : VV} {u v : Value} (h : vmm b x y = some z) (hx : VRs (okF w roots Fk X) w roots gh [x] [u]) (hy : VRs (okF w roots Fk X) w roots gh [y] [v]) :
    ∃ r, (∀ w', (match b with | .min => Builtin.min2 u v | _ => Builtin.max2 u v).run P w' = .ok r w') ∧ VRs (okF w roots Fk X) w roots gh [z] [r] := by
  unfold vmm at h
  split at h
  · obtain rfl := hx.int
    obtain rfl := hy.int
    split at h
    · split at h
      · cases h; exact ⟨.int _ _, fun w' => by simp [Builtin.min2], .sc (.int _ _) .nil⟩
      · cases h; exact ⟨.int _ _, fun w' => by simp [Builtin.max2], .sc (.int _ _) .nil⟩
      · cases h
    · cases h
  · cases h

theorem vmms_min {x z : VV} {l : List VV} {u : Value} {vs : List Value} (h : vmms .min x l = some z) (hx : VRs (okF w roots Fk X) w roots gh [x] [u]) (hl : VRs (okF w roots Fk X) w roots gh l vs) :
    ∃ r, (∀ w', (vs.foldlM Builtin.min2 u).run P w' = .ok r w') ∧ VRs (okF w roots Fk X) w roots gh [z] [r] := by
  induction l generalizing x u vs with
  | nil =>
    simp [vmms] at h; subst h
    have := hl.length
    have : vs = [] := List.eq_nil_of_length_eq_zero (by simpa using this)
    subst this
    exact ⟨u, fun w' => rfl, hx⟩
  | cons y l ih =>
    cases vs with
    | nil => have := hl.length; simp at this
    | cons v vs =>
    simp only [vmms] at h
    split at h
    · rename_i q hq
      obtain ⟨r, hr, hrr⟩ := vmm_ok (P := P) hq hx hl.hd
      obtain ⟨r2, hr2, hrr2⟩ := ih h hrr (hl.split 1).2
      exact ⟨r2, fun w' => by rw [List.foldlM_cons, Sem.run_bind, hr w', Result.andThen_ok]; exact hr2 w', hrr2⟩
    · cases h

theorem vmms_max {x z : VV} {l : List VV} {u : Value} {vs : List Value} (h : vmms .max x l = some z) (hx : VRs (okF w roots Fk X) w roots gh [x] [u]) (hl : VRs (okF w roots Fk X) w roots gh l vs) :
    ∃ r, (∀ w', (vs.foldlM Builtin.max2 u).run P w' = .ok r w') ∧ VRs (okF w roots Fk X) w roots gh [z] [r] := by
  induction l generalizing x u vs with
  | nil =>
    simp [vmms] at h; subst h
    have := hl.length
    have : vs = [] := List.eq_nil_of_length_eq_zero (by simpa using this)
    subst this
    exact ⟨u, fun w' => rfl, hx⟩
  | cons y l ih =>
    cases vs with
    | nil => have := hl.length; simp at this
    | cons v vs =>
    simp only [vmms] at h
    split at h
    · rename_i q hq
      obtain ⟨r, hr, hrr⟩ := vmm_ok (P := P) hq hx hl.hd
      obtain ⟨r2, hr2, hrr2⟩ := ih h hrr (hl.split 1).2
      exact ⟨r2, fun w' => by rw [List.foldlM_cons, Sem.run_bind, hr w', Result.andThen_ok]; exact hr2 w', hrr2⟩
    · cases h

theorem VRs.tups {ok : Option (Nat × Nat) → Nat → Prop} {cs : List VV} {v : Value} (h : VRs ok w roots gh [.tup cs] [v]) : ∃ us, v = .tuple us.toArray ∧ VRs ok w roots gh cs us := by
  cases h with
  | sc h _ => cases h
  | tup ds us h t => exact ⟨us, rfl, h⟩

/-- Reading bytes. -/
theorem byteOf1_ok {ok : Nat → Prop} : ∀ (rows : List (List VV)) (bs : List UInt8) (cells : List Value), rows.mapM byteOf1 = some bs → RO ok w rows.flatten cells → (∀ r ∈ rows, r.length = 1) →
    ∃ ns : List Int, cells = ns.map (fun n => Value.int .u8 n) ∧ bs = ns.map (fun n => UInt8.ofNat n.toNat)
  | [], bs, cells, h, hr, _ => by
    simp at h; subst h
    have := hr.length
    simp at this; subst this
    exact ⟨[], rfl, rfl⟩
  | r :: rows, bs, cells, h, hr, hs => by
    simp only [List.mapM_cons] at h
    have hr1 := hs r (by simp)
    match r, hr1 with
    | [c], _ =>
      cases hb : byteOf1 [c] with
      | none => rw [hb] at h; cases h
      | some b =>
        cases hm : rows.mapM byteOf1 with
        | none => rw [hb, hm] at h; cases h
        | some bs' =>
          rw [hb, hm] at h
          cases h
          simp only [List.flatten_cons, List.singleton_append] at hr
          unfold byteOf1 at hb
          split at hb
          · rename_i n heq
            cases hb
            simp only [List.cons.injEq, and_true] at heq
            subst heq
            cases hr with
            | sc h' t =>
              cases h'
              obtain ⟨ns, rfl, rfl⟩ := byteOf1_ok rows bs' _ hm t (fun x hx => hs x (by simp [hx]))
              exact ⟨n :: ns, rfl, rfl⟩
          · cases hb

theorem push_all (ns : List Int) : ∀ s : List UInt8, ns.foldl (fun (r : ByteArray) n => r.push (UInt8.ofNat n.toNat)) ⟨s.toArray⟩ = ⟨(s ++ ns.map fun n => UInt8.ofNat n.toNat).toArray⟩ := by
  induction ns with
  | nil => intro s; simp
  | cons n ns ih =>
    intro s
    rw [List.foldl_cons, show ByteArray.push ⟨s.toArray⟩ (UInt8.ofNat n.toNat) = ⟨(s ++ [UInt8.ofNat n.toNat]).toArray⟩ from by apply ByteArray.ext; simp [ByteArray.push], ih]
    simp

theorem run_bytes (x : Addr) (ns : List Int) (cap : Nat) (w' : World) (h : ∀ q u, (ns.map fun n => Value.int .u8 n)[q]? = some u → w'.cell? (x.add q) = some u) :
    (Conv.bytesToString (.slice (some x) ns.length cap)).run P w' = .ok (.string ⟨(ns.map fun n => UInt8.ofNat n.toNat).toArray⟩) w' := by
  have hl := run_loadCells_list (P := P) (w := w') x (ns.map (Value.int .u8)) h
  rw [List.length_map] at hl
  rw [run_bytesToString w' x _ cap ns hl]
  have := push_all ns []
  simp only [List.nil_append] at this
  rw [← this]; rfl

theorem vconv_ok (hT : TOk P T) (hr : HX C roots gh Fk X w) {s d : Nat} {c r : VV} {v : Value} (h : vconv T roots s d c = some r) (hv : VRs (okF w roots Fk X) w roots gh [c] [v]) :
    ∃ u, (∀ w', Same w w' → (convert s d v).run P w' = .ok u w') ∧ VRs (okF w roots Fk X) w roots gh [r] [u] := by
  unfold vconv at h
  split at h
  · rename_i i j k n hi hj
    obtain rfl := hv.int
    obtain ⟨d1, hd1, hm1⟩ := (hT _ _ hi).desc
    obtain ⟨d2, hd2, hm2⟩ := (hT _ _ hj).desc
    split at h
    · rename_i k' hk
      rw [hk] at hm2
      simp only at hm2
      subst hm2
      cases h
      exact ⟨.int _ _, fun w' _ => by simp [convert, run_underlying hd1, run_underlying hd2, Conv.intToInt], .sc (.int _ _) .nil⟩
    · cases h
  · rename_i i j l hi hj
    obtain rfl := hv.str
    obtain ⟨d1, hd1, hm1⟩ := (hT _ _ hi).desc
    obtain ⟨d2, hd2, hm2⟩ := (hT _ _ hj).desc
    split at h
    · rename_i hk
      rw [hk] at hm2
      simp only at hm2
      subst hm2
      cases h
      exact ⟨.string _, fun w' _ => by simp [convert, run_underlying hd1, run_underlying hd2], .sc (.str _) .nil⟩
    · cases h
  · rename_i i j c hi hj _ _
    split at h
    · rename_i e hk1 hk2
      split at h
      · rename_i ie hie
        split at h
        · rename_i hke
          simp only [Option.bind_eq_some_iff, Option.map_eq_some_iff] at h
          obtain ⟨rows, hrows, bs, hbs, rfl⟩ := h
          obtain ⟨d1, hd1, hm1⟩ := (hT _ _ hi).desc
          obtain ⟨d2, hd2, hm2⟩ := (hT _ _ hj).desc
          obtain ⟨d3, hd3, hm3⟩ := (hT _ _ hie).desc
          rw [hk1] at hm1
          rw [hk2] at hm2
          rw [hke] at hm3
          simp only at hm1 hm2 hm3
          subst hm1 hm2 hm3
          obtain ⟨sz, hro, _⟩ := rowsOf_ok hr hrows hv
          cases hro with
          | sc hs _ => cases hs
          | tr0 sz a cap t =>
            simp at hbs; subst hbs
            refine ⟨.string ⟨#[]⟩, fun w' _ => ?_, .sc (.str []) .nil⟩
            cases a with
            | none => simp [convert, run_underlying hd1, run_underlying hd2, run_underlying hd3, Conv.bytesToString]; rfl
            | some x =>
              have := run_bytes (P := P) x [] cap w' (by simp)
              simpa [convert, run_underlying hd1, run_underlying hd2, run_underlying hd3] using this
          | tr rows b off cap sz cells hok hsz hcl hcap hf t =>
            by_cases hne : rows = []
            · subst hne
              simp at hbs; subst hbs
              refine ⟨.string ⟨#[]⟩, fun w' _ => ?_, .sc (.str []) .nil⟩
              have := run_bytes (P := P) ⟨b, off, none⟩ [] cap w' (by simp)
              simpa [convert, run_underlying hd1, run_underlying hd2, run_underlying hd3] using this
            · have hs1 : ∀ r ∈ rows, r.length = 1 := by
                have : sz = 1 := by
                  obtain ⟨r, hr'⟩ := List.exists_mem_of_ne_nil rows hne
                  have h1 := hsz r hr'
                  obtain ⟨b', hb'⟩ : ∃ b', byteOf1 r = some b' := by
                    clear hcap hf hcl hsz h1 hv hrows
                    induction rows generalizing bs with
                    | nil => cases hr'
                    | cons r0 rows ih =>
                      simp only [List.mapM_cons] at hbs
                      cases hb0 : byteOf1 r0 with
                      | none => rw [hb0] at hbs; cases hbs
                      | some b0 =>
                        cases hm : rows.mapM byteOf1 with
                        | none => rw [hb0, hm] at hbs; cases hbs
                        | some bs' =>
                          rcases List.mem_cons.1 hr' with rfl | hr'
                          · exact ⟨b0, hb0⟩
                          · exact ih bs' hm (by intro e; subst e; cases hr') hr'
                  unfold byteOf1 at hb'
                  split at hb'
                  · simpa using h1.symm
                  · cases hb'
                subst this
                exact hsz
              obtain ⟨ns, rfl, rfl⟩ := byteOf1_ok rows bs cells hbs hf hs1
              have hlen : rows.length = ns.length := by
                have := hf.length
                rw [flatten_length_sz 1 rows hs1] at this
                simp at this; omega
              rw [hlen]
              refine ⟨.string ⟨(ns.map fun n => UInt8.ofNat n.toNat).toArray⟩, fun w' hw => ?_, .sc (.str _) .nil⟩
              have := run_bytes (P := P) ⟨b, off, none⟩ ns cap w' (fun q u hu => by rw [Addr.add_lit]; exact hw.cell (hcl q u hu))
              simpa [convert, run_underlying hd1, run_underlying hd2, run_underlying hd3] using this
        · cases h
      · cases h
    · cases h
  · cases h
end
end Go.Proofs.YtjldkpggcjolcaaV
