/- What a stream of chapter 5 tells, in plain Lean. -/
import Derived.Test.YtkdjljnplfempaaWfBits
set_option linter.unusedVariables false
set_option linter.unusedSimpArgs false
set_option linter.unusedSectionVars false
namespace Wf

/-- How far a stream is read, and what came out. -/
structure St where
  pos : Nat
  out : List Int

def takeS (b : List Int) (n : Nat) (s : St) : Except Int (Nat × St) :=
  if s.pos + n ≤ 8 * b.length then .ok (bitsAt b s.pos n, ⟨s.pos + n, s.out⟩) else .error 7

def tellS (most : Nat) (c : Int) (s : St) : Except Int St :=
  if s.out.length < most then .ok ⟨s.pos, s.out ++ [c]⟩ else .error 4

/-- The weight of lengths. -/
def wt : List Int → Nat
  | [] => 0
  | l :: ls => (if 0 < l then 2 ^ (15 - l.toNat) else 0) + wt ls

def lensIn (ls : List Int) : Prop := ∀ l ∈ ls, 0 ≤ l ∧ l ≤ 15
instance (ls : List Int) : Decidable (lensIn ls) := by unfold lensIn; infer_instance

def okLens (ls : List Int) : Prop := lensIn ls ∧ wt ls ≤ 32768 ∧ ls.length ≤ 512
instance (ls : List Int) : Decidable (okLens ls) := by unfold okLens; infer_instance

/-- Where the code of symbol i would begin, were its length n: what comes ahead of it. -/
def before (ls : List Int) (n : Nat) : Nat → Nat
  | 0 => wtBelow ls n
  | i + 1 => before ls n i + (if ls.getD i 0 = (n : Int) ∧ i < ls.length then 2 ^ (15 - n) else 0)
where
  /-- The weight of those that are shorter. -/
  wtBelow : List Int → Nat → Nat
  | [], _ => 0
  | l :: ls, n => (if 0 < l ∧ l < (n : Int) then 2 ^ (15 - l.toNat) else 0) + wtBelow ls n

def codeAt (ls : List Int) (n i : Nat) : Nat := before ls n i / 2 ^ (15 - n)

/-- The symbol with this code. -/
def findCode (ls : List Int) (n c : Nat) : Option Nat := (List.range ls.length).find? fun i => ls.getD i 0 = (n : Int) ∧ codeAt ls n i = c

def symGo (ls b : List Int) (pos : Nat) : Nat → Nat → Nat → Except Int (Nat × Nat)
  | 0, _, _ => .error 8
  | f + 1, n, c =>
    if wt ls ≤ c * 2 ^ (15 - n) then .error 8 else
    if 8 * b.length ≤ pos + n then .error 7 else
    match findCode ls (n + 1) (2 * c + bitAt b (pos + n)) with
    | some i => .ok (i, n + 1)
    | none => symGo ls b pos f (n + 1) (2 * c + bitAt b (pos + n))

def symS (ls b : List Int) (s : St) : Except Int (Nat × St) :=
  match symGo ls b s.pos 16 0 0 with
  | .ok (i, n) => .ok (i, ⟨s.pos + n, s.out⟩)
  | .error e => .error e

def lenTab : List (Nat × Nat) :=
  [(3, 0), (4, 0), (5, 0), (6, 0), (7, 0), (8, 0), (9, 0), (10, 0), (11, 1), (13, 1), (15, 1), (17, 1), (19, 2), (23, 2), (27, 2), (31, 2),
   (35, 3), (43, 3), (51, 3), (59, 3), (67, 4), (83, 4), (99, 4), (115, 4), (131, 5), (163, 5), (195, 5), (227, 5), (258, 0)]
def distTab : List (Nat × Nat) :=
  [(1, 0), (2, 0), (3, 0), (4, 0), (5, 1), (7, 1), (9, 2), (13, 2), (17, 3), (25, 3), (33, 4), (49, 4), (65, 5), (97, 5), (129, 6), (193, 6),
   (257, 7), (385, 7), (513, 8), (769, 8), (1025, 9), (1537, 9), (2049, 10), (3073, 10), (4097, 11), (6145, 11), (8193, 12), (12289, 12), (16385, 13), (24577, 13)]

def lenS (x : Nat) : Option (Nat × Nat) := if 257 ≤ x then lenTab[x - 257]? else none
def distS (x : Nat) : Option (Nat × Nat) := distTab[x]?

def copyS (most back : Nat) : Nat → St → Except Int St
  | 0, s => .ok s
  | n + 1, s => (tellS most (s.out.getD (s.out.length - back) 0) s).bind (copyS most back n)

/-- A length that was read: its extra bits, and its distance, and the bytes. -/
def pieceS (b : List Int) (most : Nat) (di : List Int) (x : Nat) (s : St) : Except Int St :=
  match lenS x with
  | none => .error 8
  | some (base, extra) =>
    (takeS b extra s).bind fun (e, s) =>
    (symS di b s).bind fun (d, s) =>
    match distS d with
    | none => .error 8
    | some (far, more) =>
      (takeS b more s).bind fun (m, s) =>
      if s.out.length < far + m then .error 8 else copyS most (far + m) (base + e) s

def codedS (b : List Int) (most : Nat) (sy di : List Int) : Nat → St → Except Int St
  | 0, _ => .error 7
  | f + 1, s =>
    (symS sy b s).bind fun (x, s) =>
    if x < 256 then (tellS most x s).bind (codedS b most sy di f)
    else if x = 256 then .ok s
    else (pieceS b most di x s).bind (codedS b most sy di f)

def codedP (b : List Int) (most : Nat) (sy di : List Int) (s : St) : Except Int St :=
  if okLens sy ∧ okLens di then codedS b most sy di (8 * b.length + 1) s else .error 8

def bytesS (b : List Int) (most : Nat) : Nat → St → Except Int St
  | 0, s => .ok s
  | n + 1, s => (takeS b 8 s).bind fun (c, s) => (tellS most c s).bind (bytesS b most n)

def storedS (b : List Int) (most : Nat) (s : St) : Except Int St :=
  (takeS b 16 ⟨(s.pos + 7) / 8 * 8, s.out⟩).bind fun (n, s) =>
  (takeS b 16 s).bind fun (m, s) =>
  if n + m = 65535 then bytesS b most n s else .error 8

def orderL : List Nat := [16, 17, 18, 0, 8, 7, 9, 6, 10, 5, 11, 4, 12, 3, 13, 2, 14, 1, 15]

def firstS (b : List Int) : List Nat → Nat → List Int → St → Except Int (List Int × St)
  | [], _, l, s => .ok (l, s)
  | _ :: _, 0, l, s => .ok (l, s)
  | i :: os, n + 1, l, s => (takeS b 3 s).bind fun (v, s) => firstS b os n (l.set i (v : Int)) s

/-- What a symbol of the first lengths tells: which length, how often. -/
def repS (b row : List Int) (x : Nat) (s : St) : Except Int ((Int × Nat) × St) :=
  if x = 16 then (if row = [] then .error 8 else (takeS b 2 s).bind fun (t, s) => .ok ((row.getD (row.length - 1) 0, 3 + t), s))
  else if x = 17 then (takeS b 3 s).bind fun (t, s) => .ok ((0, 3 + t), s)
  else if x = 18 then (takeS b 7 s).bind fun (t, s) => .ok ((0, 11 + t), s)
  else .ok (((x : Int), 1), s)

def rowS (b fl : List Int) (all : Nat) : Nat → List Int → St → Except Int (List Int × St)
  | 0, _, _ => .error 7
  | f + 1, row, s =>
    if all ≤ row.length then .ok (row, s) else
    (symS fl b s).bind fun (x, s) =>
    (repS b row x s).bind fun ((v, t), s) =>
    if all < row.length + t then .error 8 else rowS b fl all f (row ++ List.replicate t v) s

def dynS (b : List Int) (most : Nat) (s : St) : Except Int St :=
  (takeS b 5 s).bind fun (lit, s) =>
  if 29 < lit then .error 8 else
  (takeS b 5 s).bind fun (dist, s) =>
  if 29 < dist then .error 8 else
  (takeS b 4 s).bind fun (cl, s) =>
  (firstS b orderL (cl + 4) (List.replicate 19 0) s).bind fun (fl, s) =>
  if okLens fl then
    (rowS b fl (lit + dist + 258) (8 * b.length + 1) [] s).bind fun (row, s) =>
    if 0 < row.getD 256 0 then codedP b most (row.take (lit + 257)) (row.drop (lit + 257)) s else .error 8
  else .error 8

def fixedSy : List Int := List.replicate 144 8 ++ List.replicate 112 9 ++ List.replicate 24 7 ++ List.replicate 8 8
def fixedDi : List Int := List.replicate 30 5

def blockS (b : List Int) (most : Nat) (k : Nat) (s : St) : Except Int St :=
  if k = 0 then storedS b most s
  else if k = 1 then codedP b most fixedSy fixedDi s
  else if k = 2 then dynS b most s
  else .error 8

def allS (b : List Int) (most : Nat) : Nat → St → Except Int St
  | 0, _ => .error 7
  | f + 1, s =>
    (takeS b 1 s).bind fun (l, s) =>
    (takeS b 2 s).bind fun (k, s) =>
    (blockS b most k s).bind fun s =>
    if l = 1 then .ok s else allS b most f s

def inflateS (b : List Int) (most : Int) : Except Int (List Int × Nat) :=
  if most < 0 ∨ 65536 < most then .error 2
  else match allS b most.toNat (8 * b.length + 1) ⟨0, []⟩ with
    | .ok s => .ok (s.out, (s.pos + 7) / 8)
    | .error e => .error e

end Wf
