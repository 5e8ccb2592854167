/- Plain words on bytes and tokens: no program in sight. -/
import Derived.Lib.Bytealg
namespace Go.Proofs.YtajlibegalbbmaaDoor

def digitB (c : UInt8) : Bool := decide (48 ≤ c.toNat) && decide (c.toNat ≤ 57)
def blankB (c : UInt8) : Bool := c.toNat == 9 || c.toNat == 10 || c.toNat == 13 || c.toNat == 32
def lineB (c : UInt8) : Bool := !(c.toNat == 10)
def binB (c : UInt8) : Bool := c.toNat == 48 || c.toNat == 49
def hexB (c : UInt8) : Bool := digitB c || (decide (97 ≤ c.toNat) && decide (c.toNat ≤ 102)) || (decide (65 ≤ c.toNat) && decide (c.toNat ≤ 70))
def signs : List UInt8 := [126, 33, 64, 36, 37, 94, 38, 42, 95, 45, 43, 61, 60, 62, 46, 63, 47]
def symB (c : UInt8) : Bool := digitB c || (decide (97 ≤ c.toNat) && decide (c.toNat ≤ 122)) || (decide (65 ≤ c.toNat) && decide (c.toNat ≤ 90)) || signs.contains c
def textB (c : UInt8) : Bool := blankB c || (decide (32 < c.toNat) && decide (c.toNat ≤ 126))
def strB (c : UInt8) : Bool := textB c && !(c.toNat == 34)
def barB (c : UInt8) : Bool := textB c && !(c.toNat == 92) && !(c.toNat == 124)
def xB (c : UInt8) : Bool := c.toNat == 120
def bB (c : UInt8) : Bool := c.toNat == 98

theorem index_contains (l : List UInt8) (c : UInt8) : decide (0 ≤ Lib.indexByte l c) = l.contains c := by
  induction l with
  | nil => simp [Lib.indexByte]
  | cons b l ih =>
    have hge := Lib.indexByte_ge l c
    unfold Lib.indexByte
    rw [List.contains_cons, ← ih]
    by_cases hb : b = c
    · subst hb; simp
    · have h1 : (b == c) = false := by simpa using hb
      have h2 : (c == b) = false := by simpa using Ne.symm hb
      simp only [h1, h2, Bool.false_eq_true, if_false, Bool.false_or]
      split
      · rename_i h
        have : Lib.indexByte l c = -1 := by simpa using h
        simp [this]
      · rename_i h
        have : Lib.indexByte l c ≠ -1 := by simpa using h
        apply decide_eq_decide.2
        omega

/-- Is the byte at a place of a kind? -/
def isAt (q : UInt8 → Bool) (bs : List UInt8) (p : Nat) : Bool := match bs[p]? with | some c => q c | none => false

theorem isAt_lt {q : UInt8 → Bool} {bs : List UInt8} {p : Nat} (h : p < bs.length) : isAt q bs p = q bs[p] := by simp [isAt, List.getElem?_eq_getElem h]
theorem isAt_ge {q : UInt8 → Bool} {bs : List UInt8} {p : Nat} (h : bs.length ≤ p) : isAt q bs p = false := by simp [isAt, List.getElem?_eq_none h]

/-- The bytes of a kind at a list's head, told place by place. -/
theorem takeWhile_at {q : UInt8 → Bool} : ∀ (j : Nat) (l : List UInt8), j ≤ l.length → (∀ i, i < j → isAt q l i = true) → isAt q l j = false → l.takeWhile q = l.take j
  | 0, [], _, _, _ => rfl
  | 0, c :: l, _, _, h => by
    have : q c = false := by simpa [isAt] using h
    simp [this]
  | j + 1, [], h, _, _ => by simp at h
  | j + 1, c :: l, hl, hq, h => by
    have h0 : q c = true := by simpa [isAt] using hq 0 (by omega)
    rw [List.takeWhile_cons, h0, if_pos rfl, List.take_succ_cons, takeWhile_at j l (by simpa using hl) (fun i hi => by simpa [isAt] using hq (i + 1) (by omega)) (by simpa [isAt] using h)]

theorem isAt_drop (q : UInt8 → Bool) (bs : List UInt8) (p i : Nat) : isAt q (bs.drop p) i = isAt q bs (p + i) := by simp [isAt, List.getElem?_drop]

/-- How many bytes of blanks and comments stand at a list's head; 'true': within a comment. -/
def skipS : Bool → List UInt8 → Nat
  | _, [] => 0
  | true, c :: r => if c.toNat == 10 then 1 + skipS false r else 1 + skipS true r
  | false, c :: r => if blankB c then 1 + skipS false r else if c.toNat == 59 then 1 + skipS true r else 0

theorem skip_line : ∀ l : List UInt8, skipS true l = (l.takeWhile lineB).length + skipS false (l.drop (l.takeWhile lineB).length)
  | [] => rfl
  | c :: l => by
    by_cases h : c.toNat = 10
    · have hl : lineB c = false := by simp [lineB, h]
      have hb : blankB c = true := by simp [blankB, h]
      simp [skipS, hl, hb, h]
    · have hl : lineB c = true := by simp [lineB, h]
      have ih := skip_line l
      simp [skipS, hl, h, ih]
      omega

theorem skip_le : ∀ (b : Bool) (l : List UInt8), skipS b l ≤ l.length
  | _, [] => by simp [skipS]
  | true, c :: r => by
    have h1 := skip_le false r
    have h2 := skip_le true r
    simp only [skipS, List.length_cons]
    split <;> omega
  | false, c :: r => by
    have h1 := skip_le false r
    have h2 := skip_le true r
    simp only [skipS, List.length_cons]
    split
    · omega
    · split <;> omega

/-- What a token's reading comes to: where it is wrong, from its beginning on; or its kind, its text, and how many bytes it has. -/
abbrev TokRes := Except Nat (Nat × List UInt8 × Nat)

def words : List (List UInt8) := [[95], [33], [97, 115], [108, 101, 116], [101, 120, 105, 115, 116, 115], [102, 111, 114, 97, 108, 108], [109, 97, 116, 99, 104], [112, 97, 114], [66, 73, 78, 65, 82, 89], [68, 69, 67, 73, 77, 65, 76], [72, 69, 88, 65, 68, 69, 67, 73, 77, 65, 76], [78, 85, 77, 69, 82, 65, 76], [83, 84, 82, 73, 78, 71]]
def isWord (t : List UInt8) : Bool := words.contains t

def cnt (q : UInt8 → Bool) (l : List UInt8) : Nat := (l.takeWhile q).length
def dotB (c : UInt8) : Bool := c.toNat == 46
def quoteB (c : UInt8) : Bool := c.toNat == 34
def pipeB (c : UInt8) : Bool := c.toNat == 124

def parenT (l : List UInt8) : TokRes := if isAt (fun c => c.toNat == 40) l 0 then .ok (1, [40], 1) else .ok (2, [41], 1)
def apartT (l : List UInt8) (n : Nat) (r : Nat × List UInt8 × Nat) : TokRes := if isAt symB l n then .error n else .ok r
def numT (l : List UInt8) : TokRes :=
  if isAt (fun c => c.toNat == 48) l 0 && isAt digitB l 1 then .error 1
  else
    if isAt dotB l (cnt digitB l) && isAt digitB l (cnt digitB l + 1) then
      apartT l (cnt digitB l + 1 + cnt digitB (l.drop (cnt digitB l + 1))) (6, l.take (cnt digitB l + 1 + cnt digitB (l.drop (cnt digitB l + 1))), cnt digitB l + 1 + cnt digitB (l.drop (cnt digitB l + 1)))
    else apartT l (cnt digitB l) (5, l.take (cnt digitB l), cnt digitB l)
def bitsOf (l : List UInt8) (k : Nat) (q : UInt8 → Bool) : TokRes :=
  if isAt q l 2 then apartT l (2 + cnt q (l.drop 2)) (k, (l.drop 2).takeWhile q, 2 + cnt q (l.drop 2)) else .error 2
def bitsT (l : List UInt8) : TokRes := if isAt xB l 1 then bitsOf l 7 hexB else if isAt bB l 1 then bitsOf l 8 binB else .error 1
def quoT : List UInt8 → List UInt8 → Nat → TokRes
  | [], _, n => .error n
  | [c], acc, n => if quoteB c then .ok (9, acc, n + 1) else if textB c then .error (n + 1) else .error n
  | c :: d :: r, acc, n =>
    if quoteB c then (if quoteB d then quoT r (acc ++ [34]) (n + 2) else .ok (9, acc, n + 1))
    else if textB c then quoT (d :: r) (acc ++ [c]) (n + 1) else .error n
def keyT (l : List UInt8) : TokRes := if isAt symB l 1 then .ok (10, (l.drop 1).takeWhile symB, 1 + cnt symB (l.drop 1)) else .error 1
def barT (l : List UInt8) : TokRes := if isAt pipeB l (1 + cnt barB (l.drop 1)) then .ok (3, (l.drop 1).takeWhile barB, 1 + cnt barB (l.drop 1) + 1) else .error (1 + cnt barB (l.drop 1))
def symT (l : List UInt8) : TokRes := .ok (if isWord (l.takeWhile symB) then 4 else 3, l.takeWhile symB, cnt symB l)

/-- The token at a list's head. -/
def tokT : List UInt8 → TokRes
  | [] => .error 0
  | c :: r =>
    if c.toNat == 40 || c.toNat == 41 then parenT (c :: r)
    else if digitB c then numT (c :: r)
    else if c.toNat == 35 then bitsT (c :: r)
    else if c.toNat == 34 then quoT r [] 1
    else if c.toNat == 58 then keyT (c :: r)
    else if c.toNat == 124 then barT (c :: r)
    else if symB c then symT (c :: r)
    else .error 0

theorem drop_at {l : List UInt8} {p : Nat} (h : p < l.length) : l.drop p = l[p] :: l.drop (p + 1) := List.drop_eq_getElem_cons h
end Go.Proofs.YtajlibegalbbmaaDoor
