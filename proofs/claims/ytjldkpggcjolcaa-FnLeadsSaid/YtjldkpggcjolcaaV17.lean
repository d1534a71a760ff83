/- The machine does what these operations say. Conditions: the table of types fits the program. -/
import Derived.Test.YtjldkpggcjolcaaV16
namespace Go.Proofs.YtjldkpggcjolcaaV
set_option linter.unusedVariables false
set_option linter.unusedSimpArgs false

section
variable {P : Program} {T : Tbl} {C : Cx} {roots roots' : List Root} {gh gh' : Nat → Gh} {Fk Fk' : Nat → List Nat} {X X' : List Nat} {w w' : World} {env : List (Nat × VV)} {a : Act}

/-- A new row out of sealed cells. -/
theorem Sealed.push {vs : List Value} {ts : List VV} {own : Bool} {F : List Nat} (hS : Sealed C roots gh Fk [] w vs ts roots' own Fk' F) (e : TypeId) (sz n : Nat) (hl : ts.length = n * sz) (hn : n ≤ maxLen) {w' : World} (hw : New w w' (.cells vs.toArray e (0, 0))) :
    ∃ gh2 Fk2, HX C (roots' ++ [.arr 0 own sz (chunks sz n ts)]) gh2 Fk2 [] w' ∧ Ext roots gh Fk [] w (roots' ++ [.arr 0 own sz (chunks sz n ts)]) gh2 Fk2 [] w' ∧
      VRs (okF w' (roots' ++ [.arr 0 own sz (chunks sz n ts)]) Fk2 []) w' (roots' ++ [.arr 0 own sz (chunks sz n ts)]) gh2 [.rs roots'.length 0 0 n] [.slice (some ⟨w.heap.size, 0, none⟩) n n] := by
  obtain ⟨c1, c2, c3⟩ := chunks_flatten sz n ts hl
  have hr0 := hS.reads (fun _ => True) (fun _ _ => trivial) (fun _ _ => trivial)
  have hlv : vs.length = n * sz := by rw [hr0.length, hl]
  have htk : vs.toArray.toList.take ((chunks sz n ts).length * sz) = vs := by rw [c2]; exact List.take_of_length_le (by simp; omega)
  cases own
  · obtain ⟨h1, h2⟩ := HX.drop (X := F) (X' := []) (by simpa using hS.hx)
    have hro : RO (okF w roots' Fk' [] none) w (chunks sz n ts).flatten (vs.toArray.toList.take ((chunks sz n ts).length * sz)) := by
      rw [htk, c1]
      refine hS.reads _ (fun b hb => ⟨(hS.hx.heldM b (by simp [hb])).1, by simp, fun k R hR hm => hS.hx.heldA k R hR b hm (by simp [hb])⟩) (fun b hb => ⟨hb.1, by simp, hb.2.2⟩)
    obtain ⟨gh2, Fk2, g1, g2, g3⟩ := h1.pushShared (sz := sz) (rows := chunks sz n ts) (cur := vs.toArray) e n (free_new _) (by simp [hlv]) (by omega) hn c3 hro hw
    rw [c2] at g3
    have h2' : Ext roots' gh Fk' (F ++ []) w roots' gh Fk' [] w := by simpa using h2
    exact ⟨gh2, Fk2, g1, (hS.ext.trans h2').trans g2, g3⟩
  · have hO := hS.owns rfl
    obtain ⟨gh2, Fk2, g1, g2, g3⟩ := hS.hx.pushOwn (X' := []) (sz := sz) (rows := chunks sz n ts) (cur := vs.toArray) e n (free_new _) (by simp [hlv]) (by omega) hn c3 (F := F) (by rw [htk, c1]; exact hO)
      (fun b hb => by simpa using hb) (by simpa using hS.hx.heldN) hw
    rw [c2] at g3
    exact ⟨gh2, Fk2, g1, hS.ext.trans g2, g3⟩

theorem buildSlice_ok (hT : TOk P T) (hx : HX C roots gh Fk [] w) (he : EnvR (okF w roots Fk []) w roots gh env a.tmps) {t n e : Nat} {parts : Array (Nat × Operand)} {it ie : TI} (hit : T t = some it) (hk : it.k = .slice e) (hie : T e = some ie)
    {cells ts : List VV} {own : Bool} (hl : litCells env ie.size 0 parts.toList = some cells) (hn : parts.size = n) (hn2 : n ≤ 16777216) (hb : n * ie.size ≤ 16777216) (hs : vseal roots cells (List.replicate n ie.sls).flatten = some (ts, roots', own))
    {K : VV → List Root → Prop} (hK : K (.rs roots'.length 0 0 n) (roots' ++ [.arr 0 own ie.size (chunks ie.size n ts)])) (o : Oper) (ho : o.op = .buildSlice t n parts) :
    EffOk P C roots gh Fk w ((execOp a.eval o).run P w) K := by
  obtain ⟨d, hd, hm⟩ := (hT _ _ hit).desc
  rw [hk] at hm
  simp only at hm
  subst hm
  obtain ⟨inf, z, hinf, his, hib, hz, hzz, _, _, hzs, _⟩ := (hT _ _ hie).info
  obtain ⟨us', vs, h1, h2, h3, h4, h5⟩ := lit_ok he ie.size parts.toList 0 cells ((Array.range (n * ie.size)).map ((if n * ie.size = 0 then #[] else z.cells)[· % (if n * ie.size = 0 then #[] else z.cells : Array Value).size]!)) hl (by simp [hn])
  simp only [Nat.zero_mul, List.take_zero, List.nil_append] at h2
  have hus : us' = vs.toArray := by apply Array.ext'; simpa using h2
  subst hus
  obtain ⟨Fk', F, hS⟩ := vseal_ok cells _ roots Fk [] vs ts roots' own hs hx h3
  have hlt : ts.length = n * ie.size := by
    have := (hS.reads (fun _ => True) (fun _ _ => trivial) (fun _ _ => trivial)).length
    rw [h3.length, h5] at this
    simp at this; rw [← this, hn]
  have hmx : n ≤ maxLen := by unfold maxLen; omega
  · obtain ⟨gh2, Fk2, g1, g2, g3⟩ := hS.push e ie.size n hlt hmx (new_alloc w (.cells vs.toArray e (0, 0)))
    refine .inl ⟨_, _, _, _, gh2, Fk2, .inl ?_, hK, g1, g2, g3⟩
    have hp : (parts.map fun (p : Nat × Operand) => (p.1, a.eval p.2)).toList = parts.toList.map fun p => (p.1, a.eval p.2) := by simp
    simp only [execOp, ho, Instr.buildSlice, Sem.run_bind, run_underlying hd, Result.andThen_ok, ty_size (hT _ _ hie)]
    rw [if_neg (by omega)]
    by_cases h0 : n * ie.size = 0
    · simp only [h0, if_true] at h1
      simp only [h0, if_true, Sem.run_bind, Sem.run_pure, Result.andThen_ok, hp, h1, newRow, run_newObj]
      rfl
    · simp only [h0, if_false] at h1
      simp only [h0, if_false, zeroValue, typeInfo, hinf, hz, Sem.run_bind, run_program, Sem.run_pure, Result.andThen_ok, hp, h1, newRow, run_newObj]
      rfl

theorem store_ok (hT : TOk P T) (hx : HX C roots gh Fk [] w) (he : EnvR (okF w roots Fk []) w roots gh env a.tmps) {t : Nat} {p x : Operand} {i : TI} (hi : T t = some i) {K : VV → List Root → Prop} (h : vstore i roots (ev env p) (ev env x) K)
    (o : Oper) (ho : o.op = .store t p x) : EffOk P C roots gh Fk w ((execOp a.eval o).run P w) K := by
  unfold vstore at h
  split at h
  · rename_i k g j off cs hp hcs
    have hpv := he.ev p
    rw [hp] at hpv
    split at h
    · rename_i cells hk
      obtain ⟨hl, hle, hK⟩ := h
      obtain ⟨w', gh', Fk', h1, h2, h3⟩ := store_box (hT _ _ hi) hx hk hpv hcs (he.ev x) hl hle
      exact .inl ⟨w', _, _, _, gh', Fk', .inr ⟨by simp [execOp, ho, h1], rfl⟩, hK, h2, h3, .undef _ .nil⟩
    · rename_i g' own sz rows hk
      split at h
      · rename_i row hrow
        obtain ⟨rfl, hl, hle, ha, ha0, hK⟩ := h
        obtain ⟨w', gh', Fk', h1, h2, h3⟩ := store_arr (hT _ _ hi) hx hk hrow hpv hcs (he.ev x) hl hle ha ha0
        exact .inl ⟨w', _, _, _, gh', Fk', .inr ⟨by simp [execOp, ho, h1], rfl⟩, hK, h2, h3, .undef _ .nil⟩
      · exact h.elim
    · exact h.elim
  · exact h.elim

theorem byteRows_scs (l : List UInt8) : Scs (byteRows l).flatten (l.map fun b => Value.int .u8 b.toNat) := by
  induction l with
  | nil => exact .nil
  | cons b l ih => exact .cons (.int _ _) ih

theorem byteRows_len (l : List UInt8) : (byteRows l).length = l.length ∧ ∀ r ∈ byteRows l, r.length = 1 := by
  refine ⟨by simp [byteRows], fun r hr => ?_⟩
  simp only [byteRows, List.mem_map] at hr
  obtain ⟨b, _, rfl⟩ := hr
  rfl

theorem conv_ok (hT : TOk P T) (hx : HX C roots gh Fk [] w) (he : EnvR (okF w roots Fk []) w roots gh env a.tmps) {s d e : Nat} {x : Operand} {i j ie : TI} {l : List UInt8} (hi : T s = some i) (hj : T d = some j) (hl : ev env x = .str l) (hki : i.k = .str) (hkj : j.k = .slice e)
    (hie : T e = some ie) (hke : ie.k = .int .u8) (hb : l.length ≤ 140737488355328) {K : VV → List Root → Prop} (hK : K (.rs roots.length 0 0 l.length) (roots ++ [.arr 0 true 1 (byteRows l)])) (o : Oper) (ho : o.op = .convert s d x) :
    EffOk P C roots gh Fk w ((execOp a.eval o).run P w) K := by
  obtain ⟨d1, hd1, hm1⟩ := (hT _ _ hi).desc
  obtain ⟨d2, hd2, hm2⟩ := (hT _ _ hj).desc
  obtain ⟨d3, hd3, hm3⟩ := (hT _ _ hie).desc
  rw [hki] at hm1
  rw [hkj] at hm2
  rw [hke] at hm3
  simp only at hm1 hm2 hm3
  subst hm1 hm2 hm3
  have hv := he.ev x
  rw [hl] at hv
  have hxv := hv.str
  have hsz : (⟨l.toArray⟩ : ByteArray).size = l.length := by simp [ByteArray.size]
  have hge := grownCap_ge w l.length 0 e
  have hcm : grownCap w l.length 0 e ≤ maxLen := grownCap_le_maxLen w l.length 0 e (by unfold maxLen; omega)
  obtain ⟨hl1, hl2⟩ := byteRows_len l
  let cur : Array Value := (l.map fun b => Value.int .u8 b.toNat).toArray ++ Array.replicate (grownCap w l.length 0 e - l.length) (.int .u8 0)
  have hcs : cur.size = grownCap w l.length 0 e * 1 := by simp only [cur, Array.size_append, List.size_toArray, List.length_map, Array.size_replicate]; omega
  have htk : cur.toList.take ((byteRows l).length * 1) = l.map fun b => Value.int .u8 b.toNat := by
    simp only [cur, Array.toList_append, hl1, Nat.mul_one]
    exact List.take_left' (by simp)
  have hfr : Free cur.size (cur.size, cur.size + 1) := fun q hq h => by omega
  have hnew : New w ((w.drew.alloc (.cells cur e)).freeze ⟨w.heap.size, cur.size, none⟩ 1) (.cells cur e (cur.size, cur.size + 1)) := by
    refine ⟨?_, ?_, ?_, ?_, fun b hb => ?_, ?_⟩
    · simp only [World.freeze]; rw [if_neg (by omega)]; rfl
    · simp only [World.freeze]; rw [if_neg (by omega)]; rfl
    · simp only [World.freeze]; rw [if_neg (by omega)]; rfl
    · simp only [World.freeze]; rw [if_neg (by omega)]; simp only [Array.size_modify]; exact alloc_size w.drew _
    · simp only [World.freeze]; rw [if_neg (by omega)]; simp only [Array.getElem?_modify]; rw [if_neg (by omega)]; exact alloc_old w.drew _ hb
    · simp only [World.freeze]; rw [if_neg (by omega)]; simp only [Array.getElem?_modify, if_true]; rw [show w.heap.size = w.drew.heap.size from rfl, alloc_new w.drew]; simp
  obtain ⟨gh', Fk', g1, g2, g3⟩ := hx.pushOwn (X' := []) (sz := 1) (rows := byteRows l) (cur := cur) e (grownCap w l.length 0 e) hfr hcs (by omega) hcm hl2 (F := []) (by rw [htk]; exact (byteRows_scs l).ows) (fun b hb => by simp at hb) (by simp) hnew
  rw [hl1] at g3
  refine .inl ⟨_, _, _, _, gh', Fk', .inl ?_, hK, g1, g2, g3⟩
  have hsh : (w.drew.alloc (.cells cur e)).shape? w.heap.size = some (e, cur.size) := by
    simp only [World.shape?]
    rw [show w.heap.size = w.drew.heap.size from rfl, alloc_new w.drew]
  simp only [execOp, ho, convert, Sem.run_bind, run_underlying hd1, run_underlying hd2, run_underlying hd3, Result.andThen_ok, hxv, Conv.stringToBytes, hsz, run_choose, Question.forced, Bool.false_eq_true, if_false, newRow, run_newObj, markStringish]
  have hce : (⟨l.toArray⟩ : ByteArray).data.map (fun b => Value.int .u8 b.toNat) ++ Array.replicate ((Question.appendCap l.length 0 e).cut (w.tape w.drawn (Question.appendCap l.length 0 e)) - l.length) (Value.int .u8 0) = cur := by
    simp only [cur, grownCap]
    congr 1
    simp
  rw [hce]
  have hwe : ({ heap := w.heap.push (.cells cur e), tape := w.tape, drawn := w.drawn + 1, os := w.os, output := w.output } : World) = w.drew.alloc (.cells cur e) := rfl
  rw [hwe]
  simp only [Sem.run_pure, Result.andThen_ok, run_shape, hsh, run_freeze]
  rfl
end
end Go.Proofs.YtjldkpggcjolcaaV
