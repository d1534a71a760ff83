/- The abstract state of the V-layer: tree values, roots, and how they stand to the machine's world. Conditions: none. -/
import Derived.WalkKit
import Derived.Below
import Derived.Laws.AppendOwn
import Derived.Laws.OwnMore
import Derived.Lib.QuietBelow
import Derived.StillTail
import Derived.ChangeAgain
namespace Go.Proofs.YtjldkpggcjolcaaV

/-- A value of the abstract state. -/
inductive VV where
  | undef
  | int (k : IntKind) (n : Int)
  | bool (b : Bool)
  | str (s : List UInt8)
  | nilp
  | nils
  | nilf
  | nili
  | err
  | tr (sz : Nat) (rows : List (List VV))
  | sl (tag : Option (Nat × Nat)) (sz : Nat) (rows : List (List VV))
  | rs (k g lo n : Nat)
  | ptr (k g i off : Nat)
  | rp (tag : Option (Nat × Nat)) (row : List VV) (off : Nat)
  | agg (cs : List VV)
  | tup (vs : List VV)
  | fn (f : Nat) (caps : List VV)
  deriving Inhabited

/-- One-cell values that lead to no memory. -/
inductive Sc : VV → Value → Prop
  | int (k n) : Sc (.int k n) (.int k n)
  | bool (b) : Sc (.bool b) (.bool b)
  | str (s : List UInt8) : Sc (.str s) (.string ⟨s.toArray⟩)
  | nilp : Sc .nilp (.pointer none)
  | nils : Sc .nils (.slice none 0 0)
  | nilf : Sc .nilf .nilFunc
  | nili : Sc .nili .nilIface
  | err (t : TypeId) (v : Value) : Sc .err (.iface t v)
  | fn (f) : Sc (.fn f []) (.func (.func f) #[] #[])

/-- Cells that read as trees; the blocks that they lead to are 'ok'. -/
inductive RO (ok : Nat → Prop) (w : World) : List VV → List Value → Prop
  | nil : RO ok w [] []
  | sc {c v cs vs} (h : Sc c v) (t : RO ok w cs vs) : RO ok w (c :: cs) (v :: vs)
  | tr0 {cs vs} (sz : Nat) (a : Option Addr) (cap : Nat) (t : RO ok w cs vs) : RO ok w (.tr sz [] :: cs) (.slice a 0 cap :: vs)
  | tr {cs vs} (rows : List (List VV)) (b off cap sz : Nat) (cells : List Value) (hok : ok b) (hsz : ∀ r ∈ rows, r.length = sz)
      (hc : ∀ q u, cells[q]? = some u → w.cell? ⟨b, off + q, none⟩ = some u) (hcap : rows.length ≤ cap)
      (h : RO ok w rows.flatten cells) (t : RO ok w cs vs) : RO ok w (.tr sz rows :: cs) (.slice (some ⟨b, off, none⟩) rows.length cap :: vs)

/-- None of the first n cells is frozen. -/
def Free (n : Nat) (fr : Nat × Nat) : Prop := ∀ q, q < n → ¬ (fr.1 ≤ q ∧ q < fr.2)

/-- Cells that own what they lead to; the last list: the blocks. -/
inductive OWs (w : World) : List VV → List Value → List Nat → Prop
  | nil : OWs w [] [] []
  | sc {c v cs vs G} (h : Sc c v) (t : OWs w cs vs G) : OWs w (c :: cs) (v :: vs) G
  | tr0 {cs vs G} (sz : Nat) (t : OWs w cs vs G) : OWs w (.tr sz [] :: cs) (.slice none 0 0 :: vs) G
  | tr {cs vs G} (rows : List (List VV)) (b cap sz : Nat) (cur : Array Value) (e : TypeId) (fr : Nat × Nat) (F : List Nat) (hb : w.heap[b]? = some (.cells cur e fr)) (hf : Free cur.size fr)
      (hs : cur.size = cap * sz) (hn : rows.length ≤ cap) (hm : cap ≤ maxLen) (hsz : ∀ r ∈ rows, r.length = sz)
      (h : OWs w rows.flatten (cur.toList.take (rows.length * sz)) F) (t : OWs w cs vs G) :
      OWs w (.tr sz rows :: cs) (.slice (some ⟨b, 0, none⟩) rows.length cap :: vs) (b :: (F ++ G))

/-- A root of the abstract heap: a variable's cells, or a slice's array (its generation; whether its rows own what they lead to). -/
inductive Root where
  | dead
  | frame (snap : Nat → Option Obj) (F : List Nat)
  | box (cells : List VV)
  | arr (g : Nat) (own : Bool) (sz : Nat) (rows : List (List VV))
  deriving Inhabited

/-- Where a root lies: its block, a row's cells, the rows that fit. -/
structure Gh where
  b : Nat
  sz : Nat
  cap : Nat
  nil : Bool := false

/-- Where a slice of the root begins: the nil slice's root has no block. -/
def Gh.base (g : Gh) : Option Addr := if g.nil then none else some ⟨g.b, 0, none⟩

def Root.live : Root → Bool
  | .dead | .frame _ _ => false
  | _ => true

def tagOk (roots : List Root) : Option (Nat × Nat) → Bool
  | none => true
  | some (k, g) => match roots[k]? with
    | some (.arr g' _ _ _) => g == g'
    | _ => false

/-- The root is there, and the generation is none of the future. -/
def genLe (roots : List Root) (k g : Nat) : Prop := k < roots.length ∧ ∀ g' own sz rows, roots[k]? = some (.arr g' own sz rows) → g ≤ g'

/-- What a slot's value is, over roots that lie at 'gh'. -/
inductive VRs (ok : Option (Nat × Nat) → Nat → Prop) (w : World) (roots : List Root) (gh : Nat → Gh) : List VV → List Value → Prop
  | nil : VRs ok w roots gh [] []
  | undef {cs vs} (v : Value) (t : VRs ok w roots gh cs vs) : VRs ok w roots gh (.undef :: cs) (v :: vs)
  | sc {c v cs vs} (h : Sc c v) (t : VRs ok w roots gh cs vs) : VRs ok w roots gh (c :: cs) (v :: vs)
  | sl {cs vs} (tag : Option (Nat × Nat)) (sz : Nat) (rows : List (List VV)) (v : Value) (ho : v.oneCell' = true) (hk : ∀ k g, tag = some (k, g) → genLe roots k g) (h : tagOk roots tag = true → RO (ok tag) w [.tr sz rows] [v])
      (t : VRs ok w roots gh cs vs) : VRs ok w roots gh (.sl tag sz rows :: cs) (v :: vs)
  | rs {cs vs} (k g lo n : Nat) (v : Value) (ho : v.oneCell' = true) (hk : genLe roots k g)
      (h : ∀ own sz rows, roots[k]? = some (.arr g own sz rows) → ∃ a c, v = .slice a n c ∧ (n ≠ 0 → a = some ⟨(gh k).b, lo * (gh k).sz, none⟩) ∧ n ≤ c ∧
        (lo = 0 → a = (gh k).base ∧ c = (gh k).cap))
      (t : VRs ok w roots gh cs vs) : VRs ok w roots gh (.rs k g lo n :: cs) (v :: vs)
  | ptr {cs vs} (k g i off : Nat) (v : Value) (ho : v.oneCell' = true) (hk : genLe roots k g)
      (hb : ∀ cells, roots[k]? = some (.box cells) → v = .pointer (some ⟨(gh k).b, off, none⟩))
      (ha : ∀ own sz rows, roots[k]? = some (.arr g own sz rows) → v = .pointer (some ⟨(gh k).b, i * (gh k).sz + off, none⟩))
      (t : VRs ok w roots gh cs vs) : VRs ok w roots gh (.ptr k g i off :: cs) (v :: vs)
  | rp {cs vs} (tag : Option (Nat × Nat)) (row : List VV) (off : Nat) (v : Value) (ho : v.oneCell' = true) (hk : ∀ k g, tag = some (k, g) → genLe roots k g)
      (h : tagOk roots tag = true → ∃ b o cells, v = .pointer (some ⟨b, o + off, none⟩) ∧ ok tag b ∧ RO (ok tag) w row cells ∧ ∀ q u, cells[q]? = some u → w.cell? ⟨b, o + q, none⟩ = some u)
      (t : VRs ok w roots gh cs vs) : VRs ok w roots gh (.rp tag row off :: cs) (v :: vs)
  | agg {cs vs} (ds : List VV) (us : List Value) (h : VRs ok w roots gh ds us) (h1 : ∀ u ∈ us, u.oneCell' = true) (t : VRs ok w roots gh cs vs) : VRs ok w roots gh (.agg ds :: cs) (.agg us.toArray :: vs)
  | tup {cs vs} (ds : List VV) (us : List Value) (h : VRs ok w roots gh ds us) (t : VRs ok w roots gh cs vs) : VRs ok w roots gh (.tup ds :: cs) (.tuple us.toArray :: vs)
  | fn {cs vs} (f : Nat) (ds : List VV) (us : List Value) (h : VRs ok w roots gh ds us) (t : VRs ok w roots gh cs vs) :
      VRs ok w roots gh (.fn f ds :: cs) (.func (.func f) #[] us.toArray :: vs)

/-- One root in memory. -/
inductive HR1 (ok : Option (Nat × Nat) → Nat → Prop) (w : World) (roots : List Root) (gh : Nat → Gh) (g0 : Gh) : Root → List Nat → Prop
  | dead : HR1 ok w roots gh g0 .dead []
  | frame (snap : Nat → Option Obj) (F : List Nat) (h : ∀ b ∈ F, w.heap[b]? = snap b) : HR1 ok w roots gh g0 (.frame snap F) F
  | box (cells : List VV) (cur : Array Value) (T : TypeId) (fr : Nat × Nat) (hb : w.heap[g0.b]? = some (.cells cur T fr)) (hf : Free cur.size fr) (h : VRs ok w roots gh cells cur.toList)
      (h1 : ∀ u ∈ cur.toList, u.oneCell' = true) : HR1 ok w roots gh g0 (.box cells) [g0.b]
  | none0 (g : Nat) (own : Bool) (hz : g0.nil = true) (hc : g0.cap = 0) : HR1 ok w roots gh g0 (.arr g own g0.sz []) []
  | own (g : Nat) (rows : List (List VV)) (cur : Array Value) (e : TypeId) (fr : Nat × Nat) (F : List Nat) (hz : g0.nil = false) (hb : w.heap[g0.b]? = some (.cells cur e fr)) (hf : Free cur.size fr)
      (hs : cur.size = g0.cap * g0.sz) (hn : rows.length ≤ g0.cap) (hm : g0.cap ≤ maxLen) (hsz : ∀ r ∈ rows, r.length = g0.sz)
      (h : OWs w rows.flatten (cur.toList.take (rows.length * g0.sz)) F) : HR1 ok w roots gh g0 (.arr g true g0.sz rows) (g0.b :: F)
  | shared (g : Nat) (rows : List (List VV)) (cur : Array Value) (e : TypeId) (fr : Nat × Nat) (hz : g0.nil = false) (hb : w.heap[g0.b]? = some (.cells cur e fr)) (hf : Free cur.size fr)
      (hs : cur.size = g0.cap * g0.sz) (hn : rows.length ≤ g0.cap) (hm : g0.cap ≤ maxLen) (hsz : ∀ r ∈ rows, r.length = g0.sz)
      (h : RO (ok none) w rows.flatten (cur.toList.take (rows.length * g0.sz))) : HR1 ok w roots gh g0 (.arr g false g0.sz rows) [g0.b]

/-- The blocks that a readable value may lead to: none of the roots' and none that is held; under a tag: what that root owns. -/
def okF (w : World) (roots : List Root) (Fk : Nat → List Nat) (X : List Nat) : Option (Nat × Nat) → Nat → Prop
  | none, b => b < w.heap.size ∧ b ∉ X ∧ ∀ k R, roots[k]? = some R → b ∉ Fk k
  | some (k, _), b => b < w.heap.size ∧ b ∈ (Fk k).tail

/-- The call's frame of reference: where it began, and which older blocks it may write. -/
structure Cx where
  w0 : World
  F0 : List Nat

structure Kept (C : Cx) (w : World) : Prop where
  os : w.os = C.w0.os
  tape : w.tape = C.w0.tape
  output : w.output = C.w0.output
  size : C.w0.heap.size ≤ w.heap.size
  block : ∀ b, b < C.w0.heap.size → b ∉ C.F0 → w.heap[b]? = C.w0.heap[b]?

/-- The abstract heap stands for the world; X: blocks that are held beside it. -/
structure HX (C : Cx) (roots : List Root) (gh : Nat → Gh) (Fk : Nat → List Nat) (X : List Nat) (w : World) : Prop where
  kept : Kept C w
  one : ∀ k R, roots[k]? = some R → HR1 (okF w roots Fk X) w roots gh (gh k) R (Fk k)
  nodup : ∀ k R, roots[k]? = some R → (Fk k).Nodup
  apart : ∀ k l R S, roots[k]? = some R → roots[l]? = some S → k ≠ l → ∀ b ∈ Fk k, b ∉ Fk l
  mine : ∀ k R, roots[k]? = some R → ∀ b ∈ Fk k, b < w.heap.size ∧ (C.w0.heap.size ≤ b ∨ b ∈ C.F0)
  heldN : X.Nodup
  heldA : ∀ k R, roots[k]? = some R → ∀ b ∈ Fk k, b ∉ X
  heldM : ∀ b ∈ X, b < w.heap.size ∧ (C.w0.heap.size ≤ b ∨ b ∈ C.F0)

/-- What is known of the blocks that the program begins with. -/
abbrev Low := (Nat → Option Obj) → Prop

/-- The first blocks are as they were; none of them is held. -/
def Gl (P : Program) (L : Low) (w : World) (A : List Nat) : Prop :=
  P.low ≤ w.heap.size ∧ L (fun b => if b < P.low then w.heap[b]? else none) ∧ ∀ b ∈ A, P.low ≤ b

theorem Gl.of {P : Program} {L : Low} {C : Cx} {w : World} {A : List Nat} (h : Gl P L C.w0 C.F0) (hk : Kept C w) (hA : ∀ b ∈ A, C.w0.heap.size ≤ b ∨ b ∈ C.F0) : Gl P L w A := by
  obtain ⟨h1, h2, h3⟩ := h
  refine ⟨Nat.le_trans h1 hk.size, ?_, fun b hb => ?_⟩
  · have e : (fun b => if b < P.low then w.heap[b]? else none) = fun b => if b < P.low then C.w0.heap[b]? else none := by
      funext b
      split
      · rename_i hb
        exact hk.block b (by omega) (fun hF => by have := h3 b hF; omega)
      · rfl
    rw [e]; exact h2
  · rcases hA b hb with h | h
    · omega
    · exact h3 b h

theorem Gl.below {P : Program} {L : Low} {w w' : World} {A : List Nat} (h : Gl P L w A) (hb : RowKit.Below w.heap.size w w') : Gl P L w' A := by
  obtain ⟨h1, h2, h3⟩ := h
  refine ⟨Nat.le_trans h1 hb.size, ?_, h3⟩
  have e : (fun b => if b < P.low then w'.heap[b]? else none) = fun b => if b < P.low then w.heap[b]? else none := by
    funext b
    split
    · exact hb.block b (by omega)
    · rfl
  rw [e]; exact h2

structure St where
  env : List (Nat × VV)
  heap : List Root

def look : List (Nat × VV) → Nat → VV
  | [], _ => .undef
  | (k, c) :: r, t => if k = t then c else look r t

/-- The environment stands for the frame. -/
def EnvR (ok : Option (Nat × Nat) → Nat → Prop) (w : World) (roots : List Root) (gh : Nat → Gh) (env : List (Nat × VV)) (tmps : Array Value) : Prop :=
  ∀ t, VRs ok w roots gh [look env t] [tmps.getD t undef]

end Go.Proofs.YtjldkpggcjolcaaV
