/-
  The plain functions that the reference's lexer computes: lists of bytes, no Go, no memory. No condition.
-/
import Derived.Test.YtglkdhodpgnlgaaDoorBase
namespace Go.Tel

/-- The bytes of a rune behind its first one: what they come to, if each is one that may follow. -/
def contV : Nat → List UInt8 → Nat → Option Nat
  | 0, _, v => some v
  | _ + 1, [], _ => none
  | n + 1, d :: r, v => if d.toNat < 128 ∨ 192 ≤ d.toNat then none else contV n r (64 * v + d.toNat - 128)

def runeFin (n least v : Nat) : Nat := if v < least ∨ (55296 ≤ v ∧ v < 57344) ∨ 1114111 < v then 0 else n

def runeOpt (n least : Nat) : Option Nat → Nat
  | none => 0
  | some v => runeFin n least v

/-- How many bytes the rune at the head has; 0: it is none. -/
def runeLen : List UInt8 → Nat
  | [] => 0
  | c :: r =>
    if c.toNat < 128 then 1
    else if 192 ≤ c.toNat ∧ c.toNat < 224 then runeOpt 2 128 (contV 1 r (c.toNat - 192))
    else if 224 ≤ c.toNat ∧ c.toNat < 240 then runeOpt 3 2048 (contV 2 r (c.toNat - 224))
    else if 240 ≤ c.toNat ∧ c.toNat < 248 then runeOpt 4 65536 (contV 3 r (c.toNat - 240))
    else 0

theorem contV_len : ∀ (n : Nat) (l : List UInt8) (v u : Nat), contV n l v = some u → n ≤ l.length
  | 0, _, _, _, _ => Nat.zero_le _
  | n + 1, [], _, _, h => by simp [contV] at h
  | n + 1, d :: r, v, u, h => by
    simp only [contV] at h
    split at h
    · cases h
    · have := contV_len n r _ _ h; simp; omega

theorem runeFin_le (n least v : Nat) : runeFin n least v ≤ n := by unfold runeFin; split <;> omega
theorem runeOpt_le (n m least : Nat) (l : List UInt8) (u : Nat) (hm : n = m + 1) : runeOpt n least (contV m l u) ≤ l.length + 1 ∧ runeOpt n least (contV m l u) ≤ n := by
  cases h : contV m l u with
  | none => simp [runeOpt]
  | some v => have := contV_len _ _ _ _ h; have := runeFin_le n least v; simp only [runeOpt]; omega

theorem runeLen_both (l : List UInt8) : runeLen l ≤ l.length ∧ runeLen l ≤ 4 := by
  unfold runeLen
  split
  · simp
  · rename_i c r
    simp only [List.length_cons]
    split
    · omega
    · split
      · have := runeOpt_le 2 1 128 r (c.toNat - 192) rfl; omega
      · split
        · have := runeOpt_le 3 2 2048 r (c.toNat - 224) rfl; omega
        · split
          · have := runeOpt_le 4 3 65536 r (c.toNat - 240) rfl; omega
          · omega
theorem runeLen_le (l : List UInt8) : runeLen l ≤ l.length := (runeLen_both l).1
theorem runeLen_le4 (l : List UInt8) : runeLen l ≤ 4 := (runeLen_both l).2

def isDelim (c : UInt8) : Bool := c.toNat == 40 || c.toNat == 41 || c.toNat == 123 || c.toNat == 125 || c.toNat == 59 || c.toNat == 44
def isDigits (l : List UInt8) : Bool := l.all fun c => decide (48 ≤ c.toNat) && decide (c.toNat ≤ 57)
def headDot : List UInt8 → Bool
  | d :: _ => d.toNat == 46
  | [] => true
/-- Are a name's dots wrong? (is the place the first one) -/
def dotsFrom : Bool → List UInt8 → Bool
  | _, [] => false
  | first, c :: r => (c.toNat == 46 && (first || headDot r)) || dotsFrom false r
def dots (l : List UInt8) : Bool := dotsFrom true l

def wordList : List (List UInt8) := [[109, 111, 100, 117, 108, 101], [119, 104, 101, 114, 101], [100, 97, 116, 97], [108, 101, 116], [105, 110], [111, 112, 101, 110], [117, 115, 105, 110, 103], [104, 105, 100, 105, 110, 103], [114, 101, 110, 97, 109, 105, 110, 103], [116, 111], [112, 114, 105, 118, 97, 116, 101], [112, 111, 115, 116, 117, 108, 97, 116, 101], [105, 110, 102, 105, 120], [105, 110, 102, 105, 120, 108], [105, 110, 102, 105, 120, 114], [83, 101, 116], [102, 115, 116], [115, 110, 100], [58], [61], [45, 62], [92], [42, 42], [95], [226, 134, 146], [206, 187]]
def isWord (l : List UInt8) : Bool := wordList.contains l

/-- What a run is: its kind, its text, what is wrong. -/
def kindOf (w : List UInt8) : Int × List UInt8 × Int :=
  if isWord w then (2, if w = [226, 134, 146] then [45, 62] else if w = [206, 187] then [92] else w, 0)
  else if isDigits w then (3, w, if w.length > 9 then 41 else 0)
  else (1, w, if w.length > 60 then 2 else if dots w then 41 else 0)

def mkS (l : List UInt8) : ByteArray := ⟨l.toArray⟩

end Go.Tel
