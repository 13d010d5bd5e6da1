/- The script's law about a session that is not there: what the evaluator is told of the program, and its answer. -/
import Derived.Test.YtpbmighaddkelaaGreatDoorProg
import Derived.Test.YtpbmighaddkelaaGreatDoorE18
import Derived.KernelRfl
namespace Go.Proofs.YtpbmighaddkelaaGreatDoor
open Go.Ev

def isIn (l : List Nat) (n : Nat) : Bool := l.any fun m => Nat.beq m n

def solL : List Nat := [70, 73, 75, 77, 92, 103, 109, 115, 116, 121, 123, 124, 125, 126, 128, 129, 130, 142, 143, 144, 147, 149, 159, 160, 161, 163, 171, 172, 173, 174, 176, 181, 182, 184, 186, 191, 194, 201, 202, 204, 207, 209, 211, 212, 216, 218, 222, 223, 224, 226, 227, 229, 230, 249, 254, 258, 259, 260, 261, 263, 265, 274, 275, 278, 280, 281, 282, 283, 294, 296, 297, 300, 301, 313, 318, 319, 345, 353, 366, 367, 368, 373, 382, 414, 415, 416, 420, 423, 454]
def shrL : List Nat := [6, 36, 65, 71, 76, 78, 85, 100, 107, 110, 112, 132, 134, 137, 141, 145, 148, 150, 151, 152, 153, 154, 157, 166, 170, 175, 177, 178, 183, 185, 187, 195, 206, 236, 245, 246, 247, 251, 252, 255, 257, 267, 268, 273, 276, 277, 284, 285, 299, 312, 314, 324, 333, 338, 339, 340, 341, 342, 344, 360, 361, 362, 363, 385, 386, 390, 408, 410, 426, 431, 434, 459, 468, 469, 473, 474]

/-- How a small number is told. -/
def itoaS (n : Int) : Option ByteArray :=
  if 0 ≤ n ∧ n < 10 then some ⟨#[UInt8.ofNat (48 + n.toNat)]⟩ else if 10 ≤ n ∧ n < 100 then some ⟨#[UInt8.ofNat (48 + n.toNat / 10), UInt8.ofNat (48 + n.toNat % 10)]⟩ else none

def findB (c : UInt8) : List UInt8 → Nat → Int
  | [], _ => -1
  | b :: l, i => if b = c then (i : Int) else findB c l (i + 1)

def extIdx : List AV → Option AV
  | [.str s, .int .u8 c] => some (.int .i64 (findB c.toNat.toUInt8 s.data.toList 0))
  | _ => none

def extItoa : List AV → Option AV
  | [.int .i64 n] => (itoaS n).map .str
  | _ => none

def extF (f : FuncId) : Option (List AV → Option AV) :=
  if Nat.beq f 326 then some extIdx else if Nat.beq f 82 then some extItoa else none

noncomputable def cfg : Cfg where
  P := Tryz.prog
  md := fun f t => if Nat.beq f 83 && Nat.beq t 45 then .imm else .heap
  dk := fun f r => (Nat.beq f 135 && Nat.beq r 3) || (Nat.beq f 36 && Nat.beq r 1) || (Nat.beq f 83 && Nat.beq r 7)
  vd := fun f _ => Nat.beq f 36
  shr := isIn shrL
  sol := isIn solL
  ext := extF

theorem ev_new : ((ev cfg 100).call 6 [.zsl true] []).isSome = true := by kernel_rfl
theorem ev_law (s : ByteArray) : (ev cfg 1000).call 3 [.str s] [] = some (.bool true, []) := by kernel_rfl
theorem draws_ok : drawsOk cfg = true := by kernel_rfl
end Go.Proofs.YtpbmighaddkelaaGreatDoor
