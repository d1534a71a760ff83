/- Stores and append in memory. Conditions: those of each theorem. -/
import Derived.Test.YtjldkpggcjolcaaV12
namespace Go.Proofs.YtjldkpggcjolcaaV
set_option linter.unusedVariables false
set_option linter.unusedSimpArgs false

/-- Nothing but one block has changed. -/
structure Only (b : Nat) (w w' : World) : Prop where
  os : w'.os = w.os
  tape : w'.tape = w.tape
  output : w'.output = w.output
  size : w'.heap.size = w.heap.size
  block : ∀ k, k ≠ b → w'.heap[k]? = w.heap[k]?

theorem Only.refl (b : Nat) (w : World) : Only b w w := ⟨rfl, rfl, rfl, rfl, fun _ _ => rfl⟩
theorem Only.trans {b : Nat} {w w' w'' : World} (h : Only b w w') (h' : Only b w' w'') : Only b w w'' :=
  ⟨h'.os.trans h.os, h'.tape.trans h.tape, h'.output.trans h.output, h'.size.trans h.size, fun k hk => (h'.block k hk).trans (h.block k hk)⟩

section
variable {P : Program} {w : World}

theorem only_setCell (w : World) (a : Addr) (v : Value) : Only a.block w (w.setCell a v) :=
  ⟨rfl, rfl, rfl, by simp [World.setCell], fun k hk => RowKit.Below.heap_setCell w a v k hk⟩

theorem setCell_at {b off : Nat} {cur : Array Value} {e : TypeId} {fr : Nat × Nat} (hb : w.heap[b]? = some (.cells cur e fr)) (v : Value) :
    (w.setCell ⟨b, off, none⟩ v).heap[b]? = some (.cells (cur.setIfInBounds off v) e fr) := by
  simp [World.setCell, Array.getElem?_modify, hb]

theorem run_store_cells (b off : Nat) (e : TypeId) (fr : Nat × Nat) : ∀ (vs : List Value) (i : Nat) (cur : Array Value) (w : World), w.heap[b]? = some (.cells cur e fr) → Free cur.size fr →
    off + i + vs.length ≤ cur.size → (∀ u ∈ vs, u.oneCell' = true) →
    ∃ w', (storeCells ⟨b, off, none⟩ vs i).run P w = .ok () w' ∧ w'.heap[b]? = some (.cells (cur.toList.take (off + i) ++ vs ++ cur.toList.drop (off + i + vs.length)).toArray e fr) ∧ Only b w w'
  | [], i, cur, w, hb, hf, hl, h1 => ⟨w, rfl, by rw [hb]; simp, .refl b w⟩
  | v :: vs, i, cur, w, hb, hf, hl, h1 => by
    simp only [List.length_cons] at hl
    have hc : w.cell? ⟨b, off + i, none⟩ = some (cur[off + i]'(by omega)) := by rw [cell_blk hb]; simp
    have hfz : w.frozen? ⟨b, off + i, none⟩ = false := by
      simp only [World.frozen?, hb]
      have := hf (off + i) (by omega)
      simp only [Bool.and_eq_false_iff, decide_eq_false_iff_not]
      by_cases h : fr.1 ≤ off + i
      · exact .inr fun h2 => this ⟨h, h2⟩
      · exact .inl h
    have hs : (store ((⟨b, off, none⟩ : Addr).add i) v).run P w = .ok () (w.setCell ⟨b, off + i, none⟩ v) := by
      rw [Addr.add_lit, run_store P w _ v _ (h1 v (by simp)), hc]
      simp [hfz]
    obtain ⟨w', hr, hb', ho⟩ := run_store_cells b off e fr vs (i + 1) (cur.setIfInBounds (off + i) v) (w.setCell ⟨b, off + i, none⟩ v) (setCell_at hb v) (by simpa using hf) (by simp; omega) (fun u hu => h1 u (by simp [hu]))
    refine ⟨w', ?_, ?_, (only_setCell w ⟨b, off + i, none⟩ v).trans ho⟩
    · rw [storeCells, Sem.run_bind, hs, Result.andThen_ok]; exact hr
    · rw [hb']
      have hl' : off + i < cur.toList.length := by simp; omega
      simp only [Array.toList_setIfInBounds, List.length_cons]
      rw [show off + (i + 1) = off + i + 1 by omega, take_set_succ _ _ _ hl', List.drop_set_of_lt (by omega), show off + i + 1 + vs.length = off + i + (vs.length + 1) by omega]
      simp

/-- What an append leaves. -/
structure App (w w' : World) (b0 : Option Nat) (sz n m : Nat) (all : List Value) (v : Value) (b cap : Nat) (cur : Array Value) (e : TypeId) (fr : Nat × Nat) : Prop where
  val : v = .slice (some ⟨b, 0, none⟩) (n + m) cap
  blk : w'.heap[b]? = some (.cells cur e fr)
  free : Free cur.size fr
  csz : cur.size = cap * sz
  le : n + m ≤ cap
  max : cap ≤ maxLen
  cells : cur.toList.take ((n + m) * sz) = all
  where' : (b0 = some b ∧ w'.heap.size = w.heap.size) ∨ (b = w.heap.size ∧ w'.heap.size = w.heap.size + 1)
  other : ∀ k, k < w.heap.size → k ≠ b → w'.heap[k]? = w.heap[k]?
  os : w'.os = w.os
  tape : w'.tape = w.tape
  output : w'.output = w.output

/-- What is appended: its number and its cells. -/
structure News (P : Program) (w : World) (size : Nat) (x : Value) (m : Nat) (news : List Value) : Prop where
  len : ∀ w', (Builtin.lenOf x).run P w' = .ok m w'
  cells : ∀ w', Same w w' → (Builtin.firstCells size m x).run P w' = .ok news.toArray w'
  size : news.length = m * size
  one : ∀ u ∈ news, u.oneCell' = true

theorem same_drew (w : World) : Same w w.drew := fun _ _ => rfl

theorem size_zc (z : Array Value) (n : Nat) : (Builtin.zeroCells z n).size = n * z.size := by simp [Builtin.zeroCells]

theorem desc_ni (d : TypeDesc) : (∀ k, d ≠ .int k) → (d matches .int _) = false := by
  intro h
  cases d <;> first | rfl | exact absurd rfl (h _)

theorem run_append {t u ty e : TypeId} {i : TypeInfo} {z : Value} {d : TypeDesc} (ht : P.underlying t = some (.slice e)) (hu : P.underlying u = some d) (hd : ∀ k, d ≠ .int k) (hi : P.info? e = some i) (hz : i.zero = some z) (hzs : z.cells.size = i.size)
    {x : Value} {m : Nat} {news : List Value} (hn : News P w i.size x m news) {s : Value} {n cap : Nat} {olds : List Value} {b0 : Option Nat}
    (hs : (s = .slice none 0 0 ∧ n = 0 ∧ olds = [] ∧ b0 = none ∧ 0 < m) ∨ ∃ b cur e' fr, s = .slice (some ⟨b, 0, none⟩) n cap ∧ b0 = some b ∧ w.heap[b]? = some (.cells cur e' fr) ∧ Free cur.size fr ∧ cur.size = cap * i.size ∧ n ≤ cap ∧ cap ≤ maxLen ∧
      olds = cur.toList.take (n * i.size))
    (hbytes : (n + m) * i.bytes ≤ 140737488355328) (hsmall : n + m ≤ 9223372036854775807) :
    ∃ v w' b cap' cur e' fr, (Builtin.append_ #[t, u] ty #[s, x]).run P w = .ok v w' ∧ App w w' b0 i.size n m (olds ++ news) v b cap' cur e' fr := by
  have hdi := desc_ni d hd
  have grow : ∀ (old : Nat) (olds : List Value), old < n + m → olds.length = n * i.size → (∀ w', Same w w' → (Builtin.firstCells i.size n s).run P w' = .ok olds.toArray w') → (∃ a, s = .slice a n old) →
      ∃ v w' b cap' cur e' fr, (Builtin.append_ #[t, u] ty #[s, x]).run P w = .ok v w' ∧ App w w' b0 i.size n m (olds ++ news) v b cap' cur e' fr := by
    intro old olds hold hlo hfo ⟨a, hsa⟩
    subst hsa
    have hnn : ¬ (n + m ≤ old) := by omega
    have h63' : ¬ (9223372036854775807 < ((n : Int) + (m : Int))) := by omega
    have hfit := growslice_fits (bytes := i.bytes) hold hbytes
    have h48' : ¬ (281474976710656 < Builtin.nextslicecap (n + m) old * i.bytes) := by omega
    have hge := grownCap_ge w (n + m) old e
    have hcm : grownCap w (n + m) old e ≤ maxLen := grownCap_le_maxLen w (n + m) old e (by unfold maxLen; omega)
    have hsz : (olds.toArray ++ (news.toArray ++ Builtin.zeroCells z.cells (grownCap w (n + m) old e - (n + m)))).size = grownCap w (n + m) old e * i.size := by
      simp only [Array.size_append, List.size_toArray, size_zc, hzs, hlo, hn.size, ← Nat.add_mul]
      congr 1; omega
    refine ⟨.slice (some ⟨w.heap.size, 0, none⟩) (n + m) (grownCap w (n + m) old e), w.drew.alloc (.cells (olds.toArray ++ (news.toArray ++ Builtin.zeroCells z.cells (grownCap w (n + m) old e - (n + m)))) e), w.heap.size, grownCap w (n + m) old e, olds.toArray ++ (news.toArray ++ Builtin.zeroCells z.cells (grownCap w (n + m) old e - (n + m))), e, (0, 0), ?_, ?_⟩
    · have h1 := hn.len w
      have h2 := hn.cells w.drew (same_drew w)
      have h3 := hfo w.drew (same_drew w)
      simp [Builtin.append_, run_underlying ht, run_underlying hu, hdi, sizeOf, typeInfo, zeroValue, hi, hz, h1, hnn, h63', h48', Question.forced, h2, h3, newRow, grownCap]
    · refine ⟨rfl, alloc_new w.drew _, fun q _ hq => by simp at hq, hsz, hge, hcm, ?_, .inr ⟨rfl, alloc_size w.drew _⟩, fun k hk _ => alloc_old w.drew _ hk, rfl, rfl, rfl⟩
      have hl : (olds ++ news).length = (n + m) * i.size := by rw [List.length_append, hlo, hn.size, Nat.add_mul]
      simp only [Array.toList_append, ← List.append_assoc]
      rw [← hl]
      exact List.take_left' rfl
  rcases hs with ⟨rfl, rfl, rfl, rfl, hm⟩ | ⟨b, cur, e', fr, rfl, rfl, hb, hf, hcs, hnc, hcm, rfl⟩
  · exact grow 0 [] (by omega) (by simp) (fun w' _ => by simp [Builtin.firstCells]) ⟨none, rfl⟩
  · by_cases hroom : n + m ≤ cap
    · have hfit : 0 + n * i.size + news.length ≤ cur.size := by
        rw [hn.size, hcs, Nat.zero_add, ← Nat.add_mul]; exact Nat.mul_le_mul_right _ hroom
      obtain ⟨w', hr, hb', ho⟩ := run_store_cells (P := P) b (0 + n * i.size) e' fr news 0 cur w hb hf (by simpa using hfit) hn.one
      simp only [Nat.add_zero, Nat.zero_add] at hr hb'
      refine ⟨.slice (some ⟨b, 0, none⟩) (n + m) cap, w', b, cap, (cur.toList.take (n * i.size) ++ news ++ cur.toList.drop (n * i.size + news.length)).toArray, e', fr, ?_, rfl, hb', ?_, ?_, hroom, hcm, ?_, .inl ⟨rfl, ho.size⟩, fun k _ hk => ho.block k hk, ho.os, ho.tape, ho.output⟩
      · have h1 := hn.len w
        have h2 := hn.cells w (Same.refl w)
        simp [Builtin.append_, run_underlying ht, run_underlying hu, hdi, sizeOf, typeInfo, hi, h1, hroom, h2, Addr.add_lit, hr]
      · have hsz : (cur.toList.take (n * i.size) ++ news ++ cur.toList.drop (n * i.size + news.length)).toArray.size = cur.size := by
          simp only [List.size_toArray, List.length_append, List.length_take, List.length_drop, Array.length_toList]; omega
        rw [hsz]; exact hf
      · simp only [List.size_toArray, List.length_append, List.length_take, List.length_drop, Array.length_toList, ← hcs]; omega
      · have hl : (cur.toList.take (n * i.size) ++ news).length = (n + m) * i.size := by
          simp only [List.length_append, List.length_take, Array.length_toList, hn.size, Nat.add_mul]; omega
        rw [← hl]
        exact List.take_left' rfl
    · refine grow cap (cur.toList.take (n * i.size)) (by omega) ?_ (fun w' hw => ?_) ⟨_, rfl⟩
      · have : n * i.size ≤ cur.size := by rw [hcs]; exact Nat.mul_le_mul_right _ hnc
        simp; omega
      · refine run_firstCells_some w' i.size n ⟨b, 0, none⟩ n cap _ ?_ (fun j v hj => ?_)
        · have : n * i.size ≤ cur.size := by rw [hcs]; exact Nat.mul_le_mul_right _ hnc
          simp; omega
        · rw [List.getElem?_take] at hj
          split at hj
          · rw [Addr.add_lit, Nat.zero_add]
            exact hw.cell (by rw [cell_blk hb]; exact hj)
          · cases hj
end
end Go.Proofs.YtjldkpggcjolcaaV
