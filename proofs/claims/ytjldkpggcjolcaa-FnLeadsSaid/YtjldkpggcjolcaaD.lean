/- The data of the program as Lean structures, and how they lie in cells. Conditions: none. -/
import Derived.Test.YtjldkpggcjolcaaV35
namespace Go.Proofs.YtjldkpggcjolcaaT
open Go Go.Proofs Go.Proofs.YtjldkpggcjolcaaV
set_option linter.unusedVariables false
set_option linter.unusedSimpArgs false
/-- An int of Go. -/
abbrev i64 (n : Int) : Prop := -9223372036854775808 ≤ n ∧ n ≤ 9223372036854775807
@[simp] def intRow (n : Int) : List VV := [.int .i64 n]
@[simp] def strRow (s : List UInt8) : List VV := [.str s]
theorem readIntRow {r : List VV} (t : Hs [.int .i64] r) : ∃ x : Int, r = intRow x ∧ i64 x := by
  cases t with | int k n h t => cases t with | nil => exact ⟨n, rfl, h⟩
theorem readStrRow {r : List VV} (t : Hs [.str] r) : ∃ x : List UInt8, r = strRow x ∧ x.length ≤ 9223372036854775807 := by
  cases t with | str s h t => cases t with | nil => exact ⟨s, rfl, h⟩
theorem readInt {c : VV} (t : Hs [.int .i64] [c]) : ∃ n : Int, c = .int .i64 n ∧ i64 n := by
  cases t with | int k n h t => exact ⟨n, rfl, h⟩
theorem readBool {c : VV} (t : Hs [.bool] [c]) : ∃ n : Bool, c = .bool n ∧ True := by
  cases t with | bool n t => exact ⟨n, rfl, trivial⟩
theorem readStr {c : VV} (t : Hs [.str] [c]) : ∃ s : List UInt8, c = .str s ∧ s.length ≤ 9223372036854775807 := by
  cases t with | str s h t => exact ⟨s, rfl, h⟩
theorem readInts {c : VV} (t : Hs [.sl 1 [.int .i64]] [c]) : ∃ l : List Int, c = .tr 1 (l.map intRow) ∧ l.length ≤ 9223372036854775807 ∧ ∀ y ∈ l, i64 y := by
  cases t with | sl sz row rows h hl t =>
    obtain ⟨l, rfl, hp⟩ := rows_of fun r hr => readIntRow (h r hr)
    exact ⟨l, rfl, by simpa using hl, hp⟩
theorem readStrs {c : VV} (t : Hs [.sl 1 [.str]] [c]) : ∃ l : List (List UInt8), c = .tr 1 (l.map strRow) ∧ l.length ≤ 9223372036854775807 ∧ ∀ y ∈ l, y.length ≤ 9223372036854775807 := by
  cases t with | sl sz row rows h hl t =>
    obtain ⟨l, rfl, hp⟩ := rows_of fun r hr => readStrRow (h r hr)
    exact ⟨l, rfl, by simpa using hl, hp⟩
@[simp] def byteRow (b : UInt8) : List VV := [.int .u8 b.toNat]
theorem readByteRow {r : List VV} (t : Hs [.int .u8] r) : ∃ x : UInt8, r = byteRow x ∧ True := by
  cases t with | int k n h t => cases t with | nil =>
    refine ⟨UInt8.ofNat n.toNat, ?_, trivial⟩
    have h1 : 0 ≤ n := h.1
    have h2 : n ≤ 255 := h.2
    simp; omega
theorem readBytes {c : VV} (t : Hs [.sl 1 [.int .u8]] [c]) : ∃ l : List UInt8, c = .tr 1 (l.map byteRow) ∧ l.length ≤ 9223372036854775807 := by
  cases t with | sl sz row rows h hl t =>
    obtain ⟨l, rfl, hp⟩ := rows_of fun r hr => readByteRow (h r hr)
    exact ⟨l, rfl, by simpa using hl⟩

@[ext] structure XToken where
  fKind : Int
  fText : List UInt8
  deriving DecidableEq
@[simp] def XToken.cells (x : XToken) : List VV := [.int .i64 x.fKind, .str x.fText]
structure XToken.Ok (x : XToken) : Prop where
  fKind : i64 x.fKind
  fText : x.fText.length ≤ 9223372036854775807
theorem XToken.read {r : List VV} (t : Hs [.int .i64, .str] r) : ∃ x : XToken, r = x.cells ∧ x.Ok := by
  cases t with | int k n2 h2 t =>
  cases t with | str n3 h3 t =>
  cases t with | nil => exact ⟨⟨n2, n3⟩, rfl, ⟨h2, h3⟩⟩
theorem XToken.reads {c : VV} (t : Hs [.sl 2 [.int .i64, .str]] [c]) : ∃ l : List XToken, c = .tr 2 (l.map XToken.cells) ∧ l.length ≤ 9223372036854775807 ∧ ∀ x ∈ l, x.Ok := by
  cases t with | sl sz row rows h hl t =>
    obtain ⟨l, rfl, hp⟩ := rows_of fun r hr => XToken.read (h r hr)
    exact ⟨l, rfl, by simpa using hl, hp⟩
@[ext] structure XSpan where
  fLow : Int
  fHigh : Int
  deriving DecidableEq
@[simp] def XSpan.cells (x : XSpan) : List VV := [.int .i64 x.fLow, .int .i64 x.fHigh]
structure XSpan.Ok (x : XSpan) : Prop where
  fLow : i64 x.fLow
  fHigh : i64 x.fHigh
theorem XSpan.read {r : List VV} (t : Hs [.int .i64, .int .i64] r) : ∃ x : XSpan, r = x.cells ∧ x.Ok := by
  cases t with | int k n2 h2 t =>
  cases t with | int k n3 h3 t =>
  cases t with | nil => exact ⟨⟨n2, n3⟩, rfl, ⟨h2, h3⟩⟩
theorem XSpan.reads {c : VV} (t : Hs [.sl 2 [.int .i64, .int .i64]] [c]) : ∃ l : List XSpan, c = .tr 2 (l.map XSpan.cells) ∧ l.length ≤ 9223372036854775807 ∧ ∀ x ∈ l, x.Ok := by
  cases t with | sl sz row rows h hl t =>
    obtain ⟨l, rfl, hp⟩ := rows_of fun r hr => XSpan.read (h r hr)
    exact ⟨l, rfl, by simpa using hl, hp⟩
@[ext] structure XScope where
  fKind : Int
  fNames : List (List UInt8)
  fEvents : Int
  deriving DecidableEq
@[simp] def XScope.cells (x : XScope) : List VV := [.int .i64 x.fKind, .tr 1 (x.fNames.map strRow), .int .i64 x.fEvents]
@[simp] def XScope.acells (x : XScope) : List VV := [.int .i64 x.fKind, .sl none 1 (x.fNames.map strRow), .int .i64 x.fEvents]
structure XScope.Ok (x : XScope) : Prop where
  fKind : i64 x.fKind
  fNames : x.fNames.length ≤ 9223372036854775807 ∧ ∀ y ∈ x.fNames, y.length ≤ 9223372036854775807
  fEvents : i64 x.fEvents
theorem XScope.read {r : List VV} (t : Hs [.int .i64, .sl 1 [.str], .int .i64] r) : ∃ x : XScope, r = x.cells ∧ x.Ok := by
  cases t with | int k n2 h2 t =>
  cases t with | sl sz row rows h3 k3 t =>
  obtain ⟨n3, rfl, p3⟩ := rows_of fun r hr => readStrRow (h3 r hr)
  cases t with | int k n4 h4 t =>
  cases t with | nil => exact ⟨⟨n2, n3, n4⟩, rfl, ⟨h2, ⟨by simpa using k3, p3⟩, h4⟩⟩
theorem XScope.reads {c : VV} (t : Hs [.sl 3 [.int .i64, .sl 1 [.str], .int .i64]] [c]) : ∃ l : List XScope, c = .tr 3 (l.map XScope.cells) ∧ l.length ≤ 9223372036854775807 ∧ ∀ x ∈ l, x.Ok := by
  cases t with | sl sz row rows h hl t =>
    obtain ⟨l, rfl, hp⟩ := rows_of fun r hr => XScope.read (h r hr)
    exact ⟨l, rfl, by simpa using hl, hp⟩
@[ext] structure XFilter where
  fOn : Bool
  fScopes : List (XScope)
  deriving DecidableEq
@[simp] def XFilter.cells (x : XFilter) : List VV := [.bool x.fOn, .tr 3 (x.fScopes.map XScope.cells)]
@[simp] def XFilter.acells (x : XFilter) : List VV := [.bool x.fOn, .sl none 3 (x.fScopes.map XScope.cells)]
structure XFilter.Ok (x : XFilter) : Prop where
  fOn : True
  fScopes : x.fScopes.length ≤ 9223372036854775807 ∧ ∀ y ∈ x.fScopes, y.Ok
theorem XFilter.read {r : List VV} (t : Hs [.bool, .sl 3 [.int .i64, .sl 1 [.str], .int .i64]] r) : ∃ x : XFilter, r = x.cells ∧ x.Ok := by
  cases t with | bool n2 t =>
  cases t with | sl sz row rows h3 k3 t =>
  obtain ⟨n3, rfl, p3⟩ := rows_of fun r hr => XScope.read (h3 r hr)
  cases t with | nil => exact ⟨⟨n2, n3⟩, rfl, ⟨trivial, ⟨by simpa using k3, p3⟩⟩⟩
theorem XFilter.reads {c : VV} (t : Hs [.sl 2 [.bool, .sl 3 [.int .i64, .sl 1 [.str], .int .i64]]] [c]) : ∃ l : List XFilter, c = .tr 2 (l.map XFilter.cells) ∧ l.length ≤ 9223372036854775807 ∧ ∀ x ∈ l, x.Ok := by
  cases t with | sl sz row rows h hl t =>
    obtain ⟨l, rfl, hp⟩ := rows_of fun r hr => XFilter.read (h r hr)
    exact ⟨l, rfl, by simpa using hl, hp⟩
@[ext] structure XCommand where
  fTag : List UInt8
  fKind : Int
  fBox : List UInt8
  fTo : List UInt8
  fUid : Bool
  fSet : List (XSpan)
  fOp : Int
  fFlags : Int
  fText : List UInt8
  fFilter : XFilter
  deriving DecidableEq
@[simp] def XCommand.cells (x : XCommand) : List VV := [.str x.fTag, .int .i64 x.fKind, .str x.fBox, .str x.fTo, .bool x.fUid, .tr 2 (x.fSet.map XSpan.cells), .int .i64 x.fOp, .int .i64 x.fFlags, .str x.fText, .bool x.fFilter.fOn, .tr 3 (x.fFilter.fScopes.map XScope.cells)]
@[simp] def XCommand.acells (x : XCommand) : List VV := [.str x.fTag, .int .i64 x.fKind, .str x.fBox, .str x.fTo, .bool x.fUid, .sl none 2 (x.fSet.map XSpan.cells), .int .i64 x.fOp, .int .i64 x.fFlags, .str x.fText, .bool x.fFilter.fOn, .sl none 3 (x.fFilter.fScopes.map XScope.cells)]
structure XCommand.Ok (x : XCommand) : Prop where
  fTag : x.fTag.length ≤ 9223372036854775807
  fKind : i64 x.fKind
  fBox : x.fBox.length ≤ 9223372036854775807
  fTo : x.fTo.length ≤ 9223372036854775807
  fUid : True
  fSet : x.fSet.length ≤ 9223372036854775807 ∧ ∀ y ∈ x.fSet, y.Ok
  fOp : i64 x.fOp
  fFlags : i64 x.fFlags
  fText : x.fText.length ≤ 9223372036854775807
  fFilter : x.fFilter.Ok
theorem XCommand.read {r : List VV} (t : Hs [.str, .int .i64, .str, .str, .bool, .sl 2 [.int .i64, .int .i64], .int .i64, .int .i64, .str, .bool, .sl 3 [.int .i64, .sl 1 [.str], .int .i64]] r) : ∃ x : XCommand, r = x.cells ∧ x.Ok := by
  cases t with | str n2 h2 t =>
  cases t with | int k n3 h3 t =>
  cases t with | str n4 h4 t =>
  cases t with | str n5 h5 t =>
  cases t with | bool n6 t =>
  cases t with | sl sz row rows h7 k7 t =>
  obtain ⟨n7, rfl, p7⟩ := rows_of fun r hr => XSpan.read (h7 r hr)
  cases t with | int k n8 h8 t =>
  cases t with | int k n9 h9 t =>
  cases t with | str n10 h10 t =>
  cases t with | bool n12 t =>
  cases t with | sl sz row rows h13 k13 t =>
  obtain ⟨n13, rfl, p13⟩ := rows_of fun r hr => XScope.read (h13 r hr)
  cases t with | nil => exact ⟨⟨n2, n3, n4, n5, n6, n7, n8, n9, n10, ⟨n12, n13⟩⟩, rfl, ⟨h2, h3, h4, h5, trivial, ⟨by simpa using k7, p7⟩, h8, h9, h10, ⟨trivial, ⟨by simpa using k13, p13⟩⟩⟩⟩
theorem XCommand.reads {c : VV} (t : Hs [.sl 11 [.str, .int .i64, .str, .str, .bool, .sl 2 [.int .i64, .int .i64], .int .i64, .int .i64, .str, .bool, .sl 3 [.int .i64, .sl 1 [.str], .int .i64]]] [c]) : ∃ l : List XCommand, c = .tr 11 (l.map XCommand.cells) ∧ l.length ≤ 9223372036854775807 ∧ ∀ x ∈ l, x.Ok := by
  cases t with | sl sz row rows h hl t =>
    obtain ⟨l, rfl, hp⟩ := rows_of fun r hr => XCommand.read (h r hr)
    exact ⟨l, rfl, by simpa using hl, hp⟩
@[ext] structure XMsg where
  fUid : Int
  fFlags : Int
  fText : List UInt8
  deriving DecidableEq
@[simp] def XMsg.cells (x : XMsg) : List VV := [.int .i64 x.fUid, .int .i64 x.fFlags, .str x.fText]
structure XMsg.Ok (x : XMsg) : Prop where
  fUid : i64 x.fUid
  fFlags : i64 x.fFlags
  fText : x.fText.length ≤ 9223372036854775807
theorem XMsg.read {r : List VV} (t : Hs [.int .i64, .int .i64, .str] r) : ∃ x : XMsg, r = x.cells ∧ x.Ok := by
  cases t with | int k n2 h2 t =>
  cases t with | int k n3 h3 t =>
  cases t with | str n4 h4 t =>
  cases t with | nil => exact ⟨⟨n2, n3, n4⟩, rfl, ⟨h2, h3, h4⟩⟩
theorem XMsg.reads {c : VV} (t : Hs [.sl 3 [.int .i64, .int .i64, .str]] [c]) : ∃ l : List XMsg, c = .tr 3 (l.map XMsg.cells) ∧ l.length ≤ 9223372036854775807 ∧ ∀ x ∈ l, x.Ok := by
  cases t with | sl sz row rows h hl t =>
    obtain ⟨l, rfl, hp⟩ := rows_of fun r hr => XMsg.read (h r hr)
    exact ⟨l, rfl, by simpa using hl, hp⟩
@[ext] structure XBox where
  fName : List UInt8
  fValidity : Int
  fNext : Int
  fMsgs : List (XMsg)
  deriving DecidableEq
@[simp] def XBox.cells (x : XBox) : List VV := [.str x.fName, .int .i64 x.fValidity, .int .i64 x.fNext, .tr 3 (x.fMsgs.map XMsg.cells)]
@[simp] def XBox.acells (x : XBox) : List VV := [.str x.fName, .int .i64 x.fValidity, .int .i64 x.fNext, .sl none 3 (x.fMsgs.map XMsg.cells)]
structure XBox.Ok (x : XBox) : Prop where
  fName : x.fName.length ≤ 9223372036854775807
  fValidity : i64 x.fValidity
  fNext : i64 x.fNext
  fMsgs : x.fMsgs.length ≤ 9223372036854775807 ∧ ∀ y ∈ x.fMsgs, y.Ok
theorem XBox.read {r : List VV} (t : Hs [.str, .int .i64, .int .i64, .sl 3 [.int .i64, .int .i64, .str]] r) : ∃ x : XBox, r = x.cells ∧ x.Ok := by
  cases t with | str n2 h2 t =>
  cases t with | int k n3 h3 t =>
  cases t with | int k n4 h4 t =>
  cases t with | sl sz row rows h5 k5 t =>
  obtain ⟨n5, rfl, p5⟩ := rows_of fun r hr => XMsg.read (h5 r hr)
  cases t with | nil => exact ⟨⟨n2, n3, n4, n5⟩, rfl, ⟨h2, h3, h4, ⟨by simpa using k5, p5⟩⟩⟩
theorem XBox.reads {c : VV} (t : Hs [.sl 4 [.str, .int .i64, .int .i64, .sl 3 [.int .i64, .int .i64, .str]]] [c]) : ∃ l : List XBox, c = .tr 4 (l.map XBox.cells) ∧ l.length ≤ 9223372036854775807 ∧ ∀ x ∈ l, x.Ok := by
  cases t with | sl sz row rows h hl t =>
    obtain ⟨l, rfl, hp⟩ := rows_of fun r hr => XBox.read (h r hr)
    exact ⟨l, rfl, by simpa using hl, hp⟩
@[ext] structure XCommit where
  fKind : Int
  fValidity : Int
  fUid : Int
  fFlags : Int
  fName : List UInt8
  fText : List UInt8
  deriving DecidableEq
@[simp] def XCommit.cells (x : XCommit) : List VV := [.int .i64 x.fKind, .int .i64 x.fValidity, .int .i64 x.fUid, .int .i64 x.fFlags, .str x.fName, .str x.fText]
structure XCommit.Ok (x : XCommit) : Prop where
  fKind : i64 x.fKind
  fValidity : i64 x.fValidity
  fUid : i64 x.fUid
  fFlags : i64 x.fFlags
  fName : x.fName.length ≤ 9223372036854775807
  fText : x.fText.length ≤ 9223372036854775807
theorem XCommit.read {r : List VV} (t : Hs [.int .i64, .int .i64, .int .i64, .int .i64, .str, .str] r) : ∃ x : XCommit, r = x.cells ∧ x.Ok := by
  cases t with | int k n2 h2 t =>
  cases t with | int k n3 h3 t =>
  cases t with | int k n4 h4 t =>
  cases t with | int k n5 h5 t =>
  cases t with | str n6 h6 t =>
  cases t with | str n7 h7 t =>
  cases t with | nil => exact ⟨⟨n2, n3, n4, n5, n6, n7⟩, rfl, ⟨h2, h3, h4, h5, h6, h7⟩⟩
theorem XCommit.reads {c : VV} (t : Hs [.sl 6 [.int .i64, .int .i64, .int .i64, .int .i64, .str, .str]] [c]) : ∃ l : List XCommit, c = .tr 6 (l.map XCommit.cells) ∧ l.length ≤ 9223372036854775807 ∧ ∀ x ∈ l, x.Ok := by
  cases t with | sl sz row rows h hl t =>
    obtain ⟨l, rfl, hp⟩ := rows_of fun r hr => XCommit.read (h r hr)
    exact ⟨l, rfl, by simpa using hl, hp⟩
@[ext] structure XStore where
  fBoxes : List (XBox)
  fLog : List (XCommit)
  fGiven : Int
  deriving DecidableEq
@[simp] def XStore.cells (x : XStore) : List VV := [.tr 4 (x.fBoxes.map XBox.cells), .tr 6 (x.fLog.map XCommit.cells), .int .i64 x.fGiven]
@[simp] def XStore.acells (x : XStore) : List VV := [.sl none 4 (x.fBoxes.map XBox.cells), .sl none 6 (x.fLog.map XCommit.cells), .int .i64 x.fGiven]
structure XStore.Ok (x : XStore) : Prop where
  fBoxes : x.fBoxes.length ≤ 9223372036854775807 ∧ ∀ y ∈ x.fBoxes, y.Ok
  fLog : x.fLog.length ≤ 9223372036854775807 ∧ ∀ y ∈ x.fLog, y.Ok
  fGiven : i64 x.fGiven
theorem XStore.read {r : List VV} (t : Hs [.sl 4 [.str, .int .i64, .int .i64, .sl 3 [.int .i64, .int .i64, .str]], .sl 6 [.int .i64, .int .i64, .int .i64, .int .i64, .str, .str], .int .i64] r) : ∃ x : XStore, r = x.cells ∧ x.Ok := by
  cases t with | sl sz row rows h2 k2 t =>
  obtain ⟨n2, rfl, p2⟩ := rows_of fun r hr => XBox.read (h2 r hr)
  cases t with | sl sz row rows h3 k3 t =>
  obtain ⟨n3, rfl, p3⟩ := rows_of fun r hr => XCommit.read (h3 r hr)
  cases t with | int k n4 h4 t =>
  cases t with | nil => exact ⟨⟨n2, n3, n4⟩, rfl, ⟨⟨by simpa using k2, p2⟩, ⟨by simpa using k3, p3⟩, h4⟩⟩
theorem XStore.reads {c : VV} (t : Hs [.sl 3 [.sl 4 [.str, .int .i64, .int .i64, .sl 3 [.int .i64, .int .i64, .str]], .sl 6 [.int .i64, .int .i64, .int .i64, .int .i64, .str, .str], .int .i64]] [c]) : ∃ l : List XStore, c = .tr 3 (l.map XStore.cells) ∧ l.length ≤ 9223372036854775807 ∧ ∀ x ∈ l, x.Ok := by
  cases t with | sl sz row rows h hl t =>
    obtain ⟨l, rfl, hp⟩ := rows_of fun r hr => XStore.read (h r hr)
    exact ⟨l, rfl, by simpa using hl, hp⟩
@[ext] structure XSeen where
  fUid : Int
  fFlags : Int
  deriving DecidableEq
@[simp] def XSeen.cells (x : XSeen) : List VV := [.int .i64 x.fUid, .int .i64 x.fFlags]
structure XSeen.Ok (x : XSeen) : Prop where
  fUid : i64 x.fUid
  fFlags : i64 x.fFlags
theorem XSeen.read {r : List VV} (t : Hs [.int .i64, .int .i64] r) : ∃ x : XSeen, r = x.cells ∧ x.Ok := by
  cases t with | int k n2 h2 t =>
  cases t with | int k n3 h3 t =>
  cases t with | nil => exact ⟨⟨n2, n3⟩, rfl, ⟨h2, h3⟩⟩
theorem XSeen.reads {c : VV} (t : Hs [.sl 2 [.int .i64, .int .i64]] [c]) : ∃ l : List XSeen, c = .tr 2 (l.map XSeen.cells) ∧ l.length ≤ 9223372036854775807 ∧ ∀ x ∈ l, x.Ok := by
  cases t with | sl sz row rows h hl t =>
    obtain ⟨l, rfl, hp⟩ := rows_of fun r hr => XSeen.read (h r hr)
    exact ⟨l, rfl, by simpa using hl, hp⟩
@[ext] structure XView where
  fKnown : List (XSeen)
  deriving DecidableEq
@[simp] def XView.cells (x : XView) : List VV := [.tr 2 (x.fKnown.map XSeen.cells)]
@[simp] def XView.acells (x : XView) : List VV := [.sl none 2 (x.fKnown.map XSeen.cells)]
structure XView.Ok (x : XView) : Prop where
  fKnown : x.fKnown.length ≤ 9223372036854775807 ∧ ∀ y ∈ x.fKnown, y.Ok
theorem XView.read {r : List VV} (t : Hs [.sl 2 [.int .i64, .int .i64]] r) : ∃ x : XView, r = x.cells ∧ x.Ok := by
  cases t with | sl sz row rows h2 k2 t =>
  obtain ⟨n2, rfl, p2⟩ := rows_of fun r hr => XSeen.read (h2 r hr)
  cases t with | nil => exact ⟨⟨n2⟩, rfl, ⟨⟨by simpa using k2, p2⟩⟩⟩
theorem XView.reads {c : VV} (t : Hs [.sl 1 [.sl 2 [.int .i64, .int .i64]]] [c]) : ∃ l : List XView, c = .tr 1 (l.map XView.cells) ∧ l.length ≤ 9223372036854775807 ∧ ∀ x ∈ l, x.Ok := by
  cases t with | sl sz row rows h hl t =>
    obtain ⟨l, rfl, hp⟩ := rows_of fun r hr => XView.read (h r hr)
    exact ⟨l, rfl, by simpa using hl, hp⟩
@[ext] structure XReply where
  fKind : Int
  fN : Int
  fUid : Int
  fFlags : Int
  fName : List UInt8
  fText : List UInt8
  deriving DecidableEq
@[simp] def XReply.cells (x : XReply) : List VV := [.int .i64 x.fKind, .int .i64 x.fN, .int .i64 x.fUid, .int .i64 x.fFlags, .str x.fName, .str x.fText]
structure XReply.Ok (x : XReply) : Prop where
  fKind : i64 x.fKind
  fN : i64 x.fN
  fUid : i64 x.fUid
  fFlags : i64 x.fFlags
  fName : x.fName.length ≤ 9223372036854775807
  fText : x.fText.length ≤ 9223372036854775807
theorem XReply.read {r : List VV} (t : Hs [.int .i64, .int .i64, .int .i64, .int .i64, .str, .str] r) : ∃ x : XReply, r = x.cells ∧ x.Ok := by
  cases t with | int k n2 h2 t =>
  cases t with | int k n3 h3 t =>
  cases t with | int k n4 h4 t =>
  cases t with | int k n5 h5 t =>
  cases t with | str n6 h6 t =>
  cases t with | str n7 h7 t =>
  cases t with | nil => exact ⟨⟨n2, n3, n4, n5, n6, n7⟩, rfl, ⟨h2, h3, h4, h5, h6, h7⟩⟩
theorem XReply.reads {c : VV} (t : Hs [.sl 6 [.int .i64, .int .i64, .int .i64, .int .i64, .str, .str]] [c]) : ∃ l : List XReply, c = .tr 6 (l.map XReply.cells) ∧ l.length ≤ 9223372036854775807 ∧ ∀ x ∈ l, x.Ok := by
  cases t with | sl sz row rows h hl t =>
    obtain ⟨l, rfl, hp⟩ := rows_of fun r hr => XReply.read (h r hr)
    exact ⟨l, rfl, by simpa using hl, hp⟩
@[ext] structure XClient where
  fActive : Bool
  fName : List UInt8
  fValidity : Int
  fSize : Int
  fKnown : List (XSeen)
  fBad : Bool
  deriving DecidableEq
@[simp] def XClient.cells (x : XClient) : List VV := [.bool x.fActive, .str x.fName, .int .i64 x.fValidity, .int .i64 x.fSize, .tr 2 (x.fKnown.map XSeen.cells), .bool x.fBad]
@[simp] def XClient.acells (x : XClient) : List VV := [.bool x.fActive, .str x.fName, .int .i64 x.fValidity, .int .i64 x.fSize, .sl none 2 (x.fKnown.map XSeen.cells), .bool x.fBad]
structure XClient.Ok (x : XClient) : Prop where
  fActive : True
  fName : x.fName.length ≤ 9223372036854775807
  fValidity : i64 x.fValidity
  fSize : i64 x.fSize
  fKnown : x.fKnown.length ≤ 9223372036854775807 ∧ ∀ y ∈ x.fKnown, y.Ok
  fBad : True
theorem XClient.read {r : List VV} (t : Hs [.bool, .str, .int .i64, .int .i64, .sl 2 [.int .i64, .int .i64], .bool] r) : ∃ x : XClient, r = x.cells ∧ x.Ok := by
  cases t with | bool n2 t =>
  cases t with | str n3 h3 t =>
  cases t with | int k n4 h4 t =>
  cases t with | int k n5 h5 t =>
  cases t with | sl sz row rows h6 k6 t =>
  obtain ⟨n6, rfl, p6⟩ := rows_of fun r hr => XSeen.read (h6 r hr)
  cases t with | bool n7 t =>
  cases t with | nil => exact ⟨⟨n2, n3, n4, n5, n6, n7⟩, rfl, ⟨trivial, h3, h4, h5, ⟨by simpa using k6, p6⟩, trivial⟩⟩
theorem XClient.reads {c : VV} (t : Hs [.sl 6 [.bool, .str, .int .i64, .int .i64, .sl 2 [.int .i64, .int .i64], .bool]] [c]) : ∃ l : List XClient, c = .tr 6 (l.map XClient.cells) ∧ l.length ≤ 9223372036854775807 ∧ ∀ x ∈ l, x.Ok := by
  cases t with | sl sz row rows h hl t =>
    obtain ⟨l, rfl, hp⟩ := rows_of fun r hr => XClient.read (h r hr)
    exact ⟨l, rfl, by simpa using hl, hp⟩
@[ext] structure XNote where
  fKind : Int
  fN : Int
  fUid : Int
  fName : List UInt8
  deriving DecidableEq
@[simp] def XNote.cells (x : XNote) : List VV := [.int .i64 x.fKind, .int .i64 x.fN, .int .i64 x.fUid, .str x.fName]
structure XNote.Ok (x : XNote) : Prop where
  fKind : i64 x.fKind
  fN : i64 x.fN
  fUid : i64 x.fUid
  fName : x.fName.length ≤ 9223372036854775807
theorem XNote.read {r : List VV} (t : Hs [.int .i64, .int .i64, .int .i64, .str] r) : ∃ x : XNote, r = x.cells ∧ x.Ok := by
  cases t with | int k n2 h2 t =>
  cases t with | int k n3 h3 t =>
  cases t with | int k n4 h4 t =>
  cases t with | str n5 h5 t =>
  cases t with | nil => exact ⟨⟨n2, n3, n4, n5⟩, rfl, ⟨h2, h3, h4, h5⟩⟩
theorem XNote.reads {c : VV} (t : Hs [.sl 4 [.int .i64, .int .i64, .int .i64, .str]] [c]) : ∃ l : List XNote, c = .tr 4 (l.map XNote.cells) ∧ l.length ≤ 9223372036854775807 ∧ ∀ x ∈ l, x.Ok := by
  cases t with | sl sz row rows h hl t =>
    obtain ⟨l, rfl, hp⟩ := rows_of fun r hr => XNote.read (h r hr)
    exact ⟨l, rfl, by simpa using hl, hp⟩
@[ext] structure XQueue where
  fNotes : List (XNote)
  fResync : Bool
  fLost : Bool
  deriving DecidableEq
@[simp] def XQueue.cells (x : XQueue) : List VV := [.tr 4 (x.fNotes.map XNote.cells), .bool x.fResync, .bool x.fLost]
@[simp] def XQueue.acells (x : XQueue) : List VV := [.sl none 4 (x.fNotes.map XNote.cells), .bool x.fResync, .bool x.fLost]
structure XQueue.Ok (x : XQueue) : Prop where
  fNotes : x.fNotes.length ≤ 9223372036854775807 ∧ ∀ y ∈ x.fNotes, y.Ok
  fResync : True
  fLost : True
theorem XQueue.read {r : List VV} (t : Hs [.sl 4 [.int .i64, .int .i64, .int .i64, .str], .bool, .bool] r) : ∃ x : XQueue, r = x.cells ∧ x.Ok := by
  cases t with | sl sz row rows h2 k2 t =>
  obtain ⟨n2, rfl, p2⟩ := rows_of fun r hr => XNote.read (h2 r hr)
  cases t with | bool n3 t =>
  cases t with | bool n4 t =>
  cases t with | nil => exact ⟨⟨n2, n3, n4⟩, rfl, ⟨⟨by simpa using k2, p2⟩, trivial, trivial⟩⟩
theorem XQueue.reads {c : VV} (t : Hs [.sl 3 [.sl 4 [.int .i64, .int .i64, .int .i64, .str], .bool, .bool]] [c]) : ∃ l : List XQueue, c = .tr 3 (l.map XQueue.cells) ∧ l.length ≤ 9223372036854775807 ∧ ∀ x ∈ l, x.Ok := by
  cases t with | sl sz row rows h hl t =>
    obtain ⟨l, rfl, hp⟩ := rows_of fun r hr => XQueue.read (h r hr)
    exact ⟨l, rfl, by simpa using hl, hp⟩
@[ext] structure XOut where
  fText : List UInt8
  fSent : List UInt8
  deriving DecidableEq
@[simp] def XOut.cells (x : XOut) : List VV := [.str x.fText, .str x.fSent]
structure XOut.Ok (x : XOut) : Prop where
  fText : x.fText.length ≤ 9223372036854775807
  fSent : x.fSent.length ≤ 9223372036854775807
theorem XOut.read {r : List VV} (t : Hs [.str, .str] r) : ∃ x : XOut, r = x.cells ∧ x.Ok := by
  cases t with | str n2 h2 t =>
  cases t with | str n3 h3 t =>
  cases t with | nil => exact ⟨⟨n2, n3⟩, rfl, ⟨h2, h3⟩⟩
theorem XOut.reads {c : VV} (t : Hs [.sl 2 [.str, .str]] [c]) : ∃ l : List XOut, c = .tr 2 (l.map XOut.cells) ∧ l.length ≤ 9223372036854775807 ∧ ∀ x ∈ l, x.Ok := by
  cases t with | sl sz row rows h hl t =>
    obtain ⟨l, rfl, hp⟩ := rows_of fun r hr => XOut.read (h r hr)
    exact ⟨l, rfl, by simpa using hl, hp⟩
@[ext] structure XIn where
  fText : List UInt8
  fSkip : Bool
  deriving DecidableEq
@[simp] def XIn.cells (x : XIn) : List VV := [.str x.fText, .bool x.fSkip]
structure XIn.Ok (x : XIn) : Prop where
  fText : x.fText.length ≤ 9223372036854775807
  fSkip : True
theorem XIn.read {r : List VV} (t : Hs [.str, .bool] r) : ∃ x : XIn, r = x.cells ∧ x.Ok := by
  cases t with | str n2 h2 t =>
  cases t with | bool n3 t =>
  cases t with | nil => exact ⟨⟨n2, n3⟩, rfl, ⟨h2, trivial⟩⟩
theorem XIn.reads {c : VV} (t : Hs [.sl 2 [.str, .bool]] [c]) : ∃ l : List XIn, c = .tr 2 (l.map XIn.cells) ∧ l.length ≤ 9223372036854775807 ∧ ∀ x ∈ l, x.Ok := by
  cases t with | sl sz row rows h hl t =>
    obtain ⟨l, rfl, hp⟩ := rows_of fun r hr => XIn.read (h r hr)
    exact ⟨l, rfl, by simpa using hl, hp⟩
@[ext] structure XSession where
  fLive : Bool
  fState : Int
  fBox : Int
  fAt : Int
  fView : XView
  fFilter : XFilter
  fIdle : List UInt8
  fWait : List UInt8
  fQueue : XQueue
  fIn : XIn
  fOut : XOut
  fStuck : Int
  deriving DecidableEq
@[simp] def XSession.cells (x : XSession) : List VV := [.bool x.fLive, .int .i64 x.fState, .int .i64 x.fBox, .int .i64 x.fAt, .tr 2 (x.fView.fKnown.map XSeen.cells), .bool x.fFilter.fOn, .tr 3 (x.fFilter.fScopes.map XScope.cells), .str x.fIdle, .str x.fWait, .tr 4 (x.fQueue.fNotes.map XNote.cells), .bool x.fQueue.fResync, .bool x.fQueue.fLost, .str x.fIn.fText, .bool x.fIn.fSkip, .str x.fOut.fText, .str x.fOut.fSent, .int .i64 x.fStuck]
@[simp] def XSession.acells (x : XSession) : List VV := [.bool x.fLive, .int .i64 x.fState, .int .i64 x.fBox, .int .i64 x.fAt, .sl none 2 (x.fView.fKnown.map XSeen.cells), .bool x.fFilter.fOn, .sl none 3 (x.fFilter.fScopes.map XScope.cells), .str x.fIdle, .str x.fWait, .sl none 4 (x.fQueue.fNotes.map XNote.cells), .bool x.fQueue.fResync, .bool x.fQueue.fLost, .str x.fIn.fText, .bool x.fIn.fSkip, .str x.fOut.fText, .str x.fOut.fSent, .int .i64 x.fStuck]
structure XSession.Ok (x : XSession) : Prop where
  fLive : True
  fState : i64 x.fState
  fBox : i64 x.fBox
  fAt : i64 x.fAt
  fView : x.fView.Ok
  fFilter : x.fFilter.Ok
  fIdle : x.fIdle.length ≤ 9223372036854775807
  fWait : x.fWait.length ≤ 9223372036854775807
  fQueue : x.fQueue.Ok
  fIn : x.fIn.Ok
  fOut : x.fOut.Ok
  fStuck : i64 x.fStuck
theorem XSession.read {r : List VV} (t : Hs [.bool, .int .i64, .int .i64, .int .i64, .sl 2 [.int .i64, .int .i64], .bool, .sl 3 [.int .i64, .sl 1 [.str], .int .i64], .str, .str, .sl 4 [.int .i64, .int .i64, .int .i64, .str], .bool, .bool, .str, .bool, .str, .str, .int .i64] r) : ∃ x : XSession, r = x.cells ∧ x.Ok := by
  cases t with | bool n2 t =>
  cases t with | int k n3 h3 t =>
  cases t with | int k n4 h4 t =>
  cases t with | int k n5 h5 t =>
  cases t with | sl sz row rows h7 k7 t =>
  obtain ⟨n7, rfl, p7⟩ := rows_of fun r hr => XSeen.read (h7 r hr)
  cases t with | bool n9 t =>
  cases t with | sl sz row rows h10 k10 t =>
  obtain ⟨n10, rfl, p10⟩ := rows_of fun r hr => XScope.read (h10 r hr)
  cases t with | str n11 h11 t =>
  cases t with | str n12 h12 t =>
  cases t with | sl sz row rows h14 k14 t =>
  obtain ⟨n14, rfl, p14⟩ := rows_of fun r hr => XNote.read (h14 r hr)
  cases t with | bool n15 t =>
  cases t with | bool n16 t =>
  cases t with | str n18 h18 t =>
  cases t with | bool n19 t =>
  cases t with | str n21 h21 t =>
  cases t with | str n22 h22 t =>
  cases t with | int k n23 h23 t =>
  cases t with | nil => exact ⟨⟨n2, n3, n4, n5, ⟨n7⟩, ⟨n9, n10⟩, n11, n12, ⟨n14, n15, n16⟩, ⟨n18, n19⟩, ⟨n21, n22⟩, n23⟩, rfl, ⟨trivial, h3, h4, h5, ⟨⟨by simpa using k7, p7⟩⟩, ⟨trivial, ⟨by simpa using k10, p10⟩⟩, h11, h12, ⟨⟨by simpa using k14, p14⟩, trivial, trivial⟩, ⟨h18, trivial⟩, ⟨h21, h22⟩, h23⟩⟩
theorem XSession.reads {c : VV} (t : Hs [.sl 17 [.bool, .int .i64, .int .i64, .int .i64, .sl 2 [.int .i64, .int .i64], .bool, .sl 3 [.int .i64, .sl 1 [.str], .int .i64], .str, .str, .sl 4 [.int .i64, .int .i64, .int .i64, .str], .bool, .bool, .str, .bool, .str, .str, .int .i64]] [c]) : ∃ l : List XSession, c = .tr 17 (l.map XSession.cells) ∧ l.length ≤ 9223372036854775807 ∧ ∀ x ∈ l, x.Ok := by
  cases t with | sl sz row rows h hl t =>
    obtain ⟨l, rfl, hp⟩ := rows_of fun r hr => XSession.read (h r hr)
    exact ⟨l, rfl, by simpa using hl, hp⟩
@[ext] structure XServer where
  fStore : XStore
  fSessions : List (XSession)
  deriving DecidableEq
@[simp] def XServer.cells (x : XServer) : List VV := [.tr 4 (x.fStore.fBoxes.map XBox.cells), .tr 6 (x.fStore.fLog.map XCommit.cells), .int .i64 x.fStore.fGiven, .tr 17 (x.fSessions.map XSession.cells)]
@[simp] def XServer.acells (x : XServer) : List VV := [.sl none 4 (x.fStore.fBoxes.map XBox.cells), .sl none 6 (x.fStore.fLog.map XCommit.cells), .int .i64 x.fStore.fGiven, .sl none 17 (x.fSessions.map XSession.cells)]
structure XServer.Ok (x : XServer) : Prop where
  fStore : x.fStore.Ok
  fSessions : x.fSessions.length ≤ 9223372036854775807 ∧ ∀ y ∈ x.fSessions, y.Ok
theorem XServer.read {r : List VV} (t : Hs [.sl 4 [.str, .int .i64, .int .i64, .sl 3 [.int .i64, .int .i64, .str]], .sl 6 [.int .i64, .int .i64, .int .i64, .int .i64, .str, .str], .int .i64, .sl 17 [.bool, .int .i64, .int .i64, .int .i64, .sl 2 [.int .i64, .int .i64], .bool, .sl 3 [.int .i64, .sl 1 [.str], .int .i64], .str, .str, .sl 4 [.int .i64, .int .i64, .int .i64, .str], .bool, .bool, .str, .bool, .str, .str, .int .i64]] r) : ∃ x : XServer, r = x.cells ∧ x.Ok := by
  cases t with | sl sz row rows h3 k3 t =>
  obtain ⟨n3, rfl, p3⟩ := rows_of fun r hr => XBox.read (h3 r hr)
  cases t with | sl sz row rows h4 k4 t =>
  obtain ⟨n4, rfl, p4⟩ := rows_of fun r hr => XCommit.read (h4 r hr)
  cases t with | int k n5 h5 t =>
  cases t with | sl sz row rows h6 k6 t =>
  obtain ⟨n6, rfl, p6⟩ := rows_of fun r hr => XSession.read (h6 r hr)
  cases t with | nil => exact ⟨⟨⟨n3, n4, n5⟩, n6⟩, rfl, ⟨⟨⟨by simpa using k3, p3⟩, ⟨by simpa using k4, p4⟩, h5⟩, ⟨by simpa using k6, p6⟩⟩⟩
theorem XServer.reads {c : VV} (t : Hs [.sl 4 [.sl 4 [.str, .int .i64, .int .i64, .sl 3 [.int .i64, .int .i64, .str]], .sl 6 [.int .i64, .int .i64, .int .i64, .int .i64, .str, .str], .int .i64, .sl 17 [.bool, .int .i64, .int .i64, .int .i64, .sl 2 [.int .i64, .int .i64], .bool, .sl 3 [.int .i64, .sl 1 [.str], .int .i64], .str, .str, .sl 4 [.int .i64, .int .i64, .int .i64, .str], .bool, .bool, .str, .bool, .str, .str, .int .i64]]] [c]) : ∃ l : List XServer, c = .tr 4 (l.map XServer.cells) ∧ l.length ≤ 9223372036854775807 ∧ ∀ x ∈ l, x.Ok := by
  cases t with | sl sz row rows h hl t =>
    obtain ⟨l, rfl, hp⟩ := rows_of fun r hr => XServer.read (h r hr)
    exact ⟨l, rfl, by simpa using hl, hp⟩
@[ext] structure XAct where
  fKind : Int
  fSession : Int
  fN : Int
  fText : List UInt8
  deriving DecidableEq
@[simp] def XAct.cells (x : XAct) : List VV := [.int .i64 x.fKind, .int .i64 x.fSession, .int .i64 x.fN, .str x.fText]
structure XAct.Ok (x : XAct) : Prop where
  fKind : i64 x.fKind
  fSession : i64 x.fSession
  fN : i64 x.fN
  fText : x.fText.length ≤ 9223372036854775807
theorem XAct.read {r : List VV} (t : Hs [.int .i64, .int .i64, .int .i64, .str] r) : ∃ x : XAct, r = x.cells ∧ x.Ok := by
  cases t with | int k n2 h2 t =>
  cases t with | int k n3 h3 t =>
  cases t with | int k n4 h4 t =>
  cases t with | str n5 h5 t =>
  cases t with | nil => exact ⟨⟨n2, n3, n4, n5⟩, rfl, ⟨h2, h3, h4, h5⟩⟩
theorem XAct.reads {c : VV} (t : Hs [.sl 4 [.int .i64, .int .i64, .int .i64, .str]] [c]) : ∃ l : List XAct, c = .tr 4 (l.map XAct.cells) ∧ l.length ≤ 9223372036854775807 ∧ ∀ x ∈ l, x.Ok := by
  cases t with | sl sz row rows h hl t =>
    obtain ⟨l, rfl, hp⟩ := rows_of fun r hr => XAct.read (h r hr)
    exact ⟨l, rfl, by simpa using hl, hp⟩
@[ext] structure XOutcome where
  fSession : Int
  fLine : List UInt8
  fKind : Int
  deriving DecidableEq
@[simp] def XOutcome.cells (x : XOutcome) : List VV := [.int .i64 x.fSession, .str x.fLine, .int .i64 x.fKind]
structure XOutcome.Ok (x : XOutcome) : Prop where
  fSession : i64 x.fSession
  fLine : x.fLine.length ≤ 9223372036854775807
  fKind : i64 x.fKind
theorem XOutcome.read {r : List VV} (t : Hs [.int .i64, .str, .int .i64] r) : ∃ x : XOutcome, r = x.cells ∧ x.Ok := by
  cases t with | int k n2 h2 t =>
  cases t with | str n3 h3 t =>
  cases t with | int k n4 h4 t =>
  cases t with | nil => exact ⟨⟨n2, n3, n4⟩, rfl, ⟨h2, h3, h4⟩⟩
theorem XOutcome.reads {c : VV} (t : Hs [.sl 3 [.int .i64, .str, .int .i64]] [c]) : ∃ l : List XOutcome, c = .tr 3 (l.map XOutcome.cells) ∧ l.length ≤ 9223372036854775807 ∧ ∀ x ∈ l, x.Ok := by
  cases t with | sl sz row rows h hl t =>
    obtain ⟨l, rfl, hp⟩ := rows_of fun r hr => XOutcome.read (h r hr)
    exact ⟨l, rfl, by simpa using hl, hp⟩

def szF : List Nat → Int → Int
  | [], n => n
  | k :: r, n => if n - k < 0 then -1 else szF r (n - k)
theorem szF_le : ∀ (l : List Nat) (n : Int), 0 ≤ n → szF l n ≤ n
  | [], n, _ => by simp [szF]
  | k :: r, n, h => by
    rw [szF]
    split
    · omega
    · have := szF_le r (n - k) (by omega); omega
def szL {α : Type} (f : α → Int → Int) : List α → Int → Int
  | [], n => n
  | x :: l, n => if f x n < 0 then -1 else szL f l (f x n)
def szS {α : Type} (f : α → Int → Int) (l : List α) (n : Int) : Int := if n - l.length < 0 then -1 else szL f l (n - l.length)
theorem szL_le {α : Type} {f : α → Int → Int} (hf : ∀ x n, 0 ≤ n → f x n ≤ n) : ∀ (l : List α) (n : Int), 0 ≤ n → szL f l n ≤ n
  | [], n, _ => by simp [szL]
  | x :: l, n, h => by
    rw [szL]
    have := hf x n h
    split
    · omega
    · have := szL_le hf l (f x n) (by omega); omega
theorem szS_le {α : Type} {f : α → Int → Int} (hf : ∀ x n, 0 ≤ n → f x n ≤ n) (l : List α) (n : Int) (h : 0 ≤ n) : szS f l n ≤ n := by
  unfold szS
  split
  · omega
  · have := szL_le hf l (n - l.length) (by omega); omega
theorem szS_len {α : Type} {f : α → Int → Int} {l : List α} {n : Int} (h : ¬ szS f l n < 0) : l.length ≤ n := by
  unfold szS at h
  split at h <;> omega
def dig1 (k : Nat) : List UInt8 := if k = 0 then [] else dig1 (k / 10) ++ [UInt8.ofNat (48 + k % 10)]
termination_by k
decreasing_by omega
def mtext (k : Int) : List UInt8 := if k ≤ 0 then [109, 48] else 109 :: dig1 k.toNat
theorem dig1_len : ∀ (m n : Nat), n < 10 ^ m → (dig1 n).length ≤ m
  | 0, n, h => by rw [dig1, if_pos (by simpa using h)]; simp
  | m + 1, n, h => by
    rw [dig1]
    split
    · simp
    · have := dig1_len m (n / 10) (by rw [Nat.pow_succ] at h; omega)
      simp; omega
def markL (f : Int → List VV) (d : Int) : Nat → Int → List (List VV)
  | 0, _ => []
  | n + 1, k => markL f d n k ++ [f (k + d * n)]
@[simp] theorem markL_length (f : Int → List VV) (d : Int) (n : Nat) (k : Int) : (markL f d n k).length = n := by
  induction n with
  | zero => rfl
  | succ n ih => simp [markL, ih]
@[simp] theorem markL_take (f : Int → List VV) (d : Int) (n : Nat) (k : Int) : (markL f d n k).take n = markL f d n k := List.take_of_length_le (by simp)
theorem markL_get (f : Int → List VV) (d : Int) (n : Nat) (k : Int) (i : Nat) (h : i < n) : (markL f d n k)[i]? = some (f (k + d * i)) := by
  induction n with
  | zero => omega
  | succ n ih =>
    simp only [markL]
    by_cases hi : i < n
    · rw [List.getElem?_append_left (by simpa using hi)]; exact ih hi
    · have : i = n := by omega
      subst this
      simp
def markRToken (k : Int) : List VV := [.int .i64 k, .str (mtext (k + 1))]
def szRToken (x : XToken) (n : Int) : Int := szF [x.fText.length] n
theorem szRToken_le (x : XToken) (n : Int) (h : 0 ≤ n) : szRToken x n ≤ n := szF_le _ n h
def markRSpan (k : Int) : List VV := [.int .i64 k, .int .i64 (k + 1)]
def szRSpan (x : XSpan) (n : Int) : Int := szF [] n
theorem szRSpan_le (x : XSpan) (n : Int) (h : 0 ≤ n) : szRSpan x n ≤ n := szF_le _ n h
def markRMsg (k : Int) : List VV := [.int .i64 k, .int .i64 (k + 1), .str (mtext (k + 1 + 1))]
def szRMsg (x : XMsg) (n : Int) : Int := szF [x.fText.length] n
theorem szRMsg_le (x : XMsg) (n : Int) (h : 0 ≤ n) : szRMsg x n ≤ n := szF_le _ n h
def markRCommit (k : Int) : List VV := [.int .i64 k, .int .i64 (k + 1), .int .i64 (k + 1 + 1), .int .i64 (k + 1 + 1 + 1), .str (mtext (k + 1 + 1 + 1 + 1)), .str (mtext (k + 1 + 1 + 1 + 1 + 1))]
def szRCommit (x : XCommit) (n : Int) : Int := szF [x.fName.length, x.fText.length] n
theorem szRCommit_le (x : XCommit) (n : Int) (h : 0 ≤ n) : szRCommit x n ≤ n := szF_le _ n h
def markRSeen (k : Int) : List VV := [.int .i64 k, .int .i64 (k + 1)]
def szRSeen (x : XSeen) (n : Int) : Int := szF [] n
theorem szRSeen_le (x : XSeen) (n : Int) (h : 0 ≤ n) : szRSeen x n ≤ n := szF_le _ n h
def markRReply (k : Int) : List VV := [.int .i64 k, .int .i64 (k + 1), .int .i64 (k + 1 + 1), .int .i64 (k + 1 + 1 + 1), .str (mtext (k + 1 + 1 + 1 + 1)), .str (mtext (k + 1 + 1 + 1 + 1 + 1))]
def szRReply (x : XReply) (n : Int) : Int := szF [x.fName.length, x.fText.length] n
theorem szRReply_le (x : XReply) (n : Int) (h : 0 ≤ n) : szRReply x n ≤ n := szF_le _ n h
def markRNote (k : Int) : List VV := [.int .i64 k, .int .i64 (k + 1), .int .i64 (k + 1 + 1), .str (mtext (k + 1 + 1 + 1))]
def szRNote (x : XNote) (n : Int) : Int := szF [x.fName.length] n
theorem szRNote_le (x : XNote) (n : Int) (h : 0 ≤ n) : szRNote x n ≤ n := szF_le _ n h
def markROut (k : Int) : List VV := [.str (mtext k), .str (mtext (k + 1))]
def szROut (x : XOut) (n : Int) : Int := szF [x.fText.length, x.fSent.length] n
theorem szROut_le (x : XOut) (n : Int) (h : 0 ≤ n) : szROut x n ≤ n := szF_le _ n h
def markRIn (k : Int) : List VV := [.str (mtext k), .bool (decide ((k + 1).tmod 3 = 0))]
def szRIn (x : XIn) (n : Int) : Int := szF [x.fText.length] n
theorem szRIn_le (x : XIn) (n : Int) (h : 0 ≤ n) : szRIn x n ≤ n := szF_le _ n h
def markRAct (k : Int) : List VV := [.int .i64 k, .int .i64 (k + 1), .int .i64 (k + 1 + 1), .str (mtext (k + 1 + 1 + 1))]
def szRAct (x : XAct) (n : Int) : Int := szF [x.fText.length] n
theorem szRAct_le (x : XAct) (n : Int) (h : 0 ≤ n) : szRAct x n ≤ n := szF_le _ n h
def markROutcome (k : Int) : List VV := [.int .i64 k, .str (mtext (k + 1)), .int .i64 (k + 1 + 1)]
def szROutcome (x : XOutcome) (n : Int) : Int := szF [x.fLine.length] n
theorem szROutcome_le (x : XOutcome) (n : Int) (h : 0 ≤ n) : szROutcome x n ≤ n := szF_le _ n h
def markRString (k : Int) : List VV := [.str (mtext k)]
def markRInt (k : Int) : List VV := [.int .i64 k]
def szRString (x : List UInt8) (n : Int) : Int := szF [x.length] n
theorem szRString_le (x : List UInt8) (n : Int) (h : 0 ≤ n) : szRString x n ≤ n := szF_le _ n h
end Go.Proofs.YtjldkpggcjolcaaT
