/- What lies behind a stream changes nothing, nor does a greater bound: in plain Lean. -/
import Derived.Test.YtkdjljnplfempaaWfAll
set_option linter.unusedVariables false
set_option linter.unusedSimpArgs false
set_option linter.unusedSectionVars false
namespace Wf

/-- What the first answers, the second answers too. -/
def Le {α : Type} (X Y : Except Int α) : Prop := ∀ r, X = .ok r → Y = .ok r
theorem Le.refl {α : Type} (X : Except Int α) : Le X X := fun _ h => h
theorem Le.err {α : Type} (k : Int) (Y : Except Int α) : Le (.error k) Y := fun _ h => by cases h
theorem Le.bind {α β : Type} {X Y : Except Int α} {f g : α → Except Int β} (h : Le X Y) (hf : ∀ a, Le (f a) (g a)) : Le (X.bind f) (Y.bind g) := fun r e => by
  cases hX : X with
  | error k => rw [hX] at e; cases e
  | ok a => rw [hX] at e; rw [h a hX]; exact hf a r e

section
variable {b z : List Int} {m m' : Nat}
theorem byteAt_app {i : Nat} (h : i < b.length) : byteAt (b ++ z) i = byteAt b i := by
  unfold byteAt
  simp [List.getD, List.getElem?_append_left h]
theorem bitAt_app {i : Nat} (h : i < 8 * b.length) : bitAt (b ++ z) i = bitAt b i := by
  unfold bitAt
  rw [byteAt_app (by omega)]
theorem bitsAt_app (p : Nat) : ∀ n, p + n ≤ 8 * b.length → bitsAt (b ++ z) p n = bitsAt b p n
  | 0, _ => rfl
  | n + 1, h => by
    simp only [bitsAt]
    rw [bitsAt_app p n (by omega), bitAt_app (by omega)]
theorem takeS_le (n : Nat) (s : St) : Le (takeS b n s) (takeS (b ++ z) n s) := fun r h => by
  unfold takeS at h ⊢
  split at h
  · rename_i hp
    rw [if_pos (by simp; omega), bitsAt_app _ _ hp]
    exact h
  · cases h
theorem tellS_le (hm : m ≤ m') (c : Int) (s : St) : Le (tellS m c s) (tellS m' c s) := fun r h => by
  unfold tellS at h ⊢
  split at h
  · rw [if_pos (by omega)]; exact h
  · cases h
theorem symGo_le (ls : List Int) (p : Nat) : ∀ (f n c : Nat), Le (symGo ls b p f n c) (symGo ls (b ++ z) p f n c)
  | 0, _, _ => Le.refl _
  | f + 1, n, c => by
    unfold symGo
    split
    · exact Le.err _ _
    · split
      · exact Le.err _ _
      · rw [if_neg (by simp; omega), bitAt_app (by omega)]
        split
        · exact Le.refl _
        · exact symGo_le ls p f _ _
theorem symS_le (ls : List Int) (s : St) : Le (symS ls b s) (symS ls (b ++ z) s) := fun r h => by
  unfold symS at h ⊢
  cases hg : symGo ls b s.pos 16 0 0 with
  | error k => rw [hg] at h; cases h
  | ok y => rw [hg] at h; rw [symGo_le ls s.pos 16 0 0 y hg]; exact h
theorem copyS_le (hm : m ≤ m') (k : Nat) : ∀ (n : Nat) (s : St), Le (copyS m k n s) (copyS m' k n s)
  | 0, s => Le.refl _
  | n + 1, s => Le.bind (tellS_le hm _ s) fun a => copyS_le hm k n a
theorem pieceS_le (hm : m ≤ m') (di : List Int) (x : Nat) (s : St) : Le (pieceS b m di x s) (pieceS (b ++ z) m' di x s) := by
  unfold pieceS
  split
  · exact Le.err _ _
  · refine Le.bind (takeS_le _ s) fun a => Le.bind (symS_le di a.2) fun d => ?_
    try dsimp only
    split
    · exact Le.err _ _
    · refine Le.bind (takeS_le _ _) fun e => ?_
      try dsimp only
      split
      · exact Le.err _ _
      · exact copyS_le hm _ _ _
theorem codedS_le (hm : m ≤ m') (sy di : List Int) : ∀ (f f' : Nat) (s : St), f ≤ f' → Le (codedS b m sy di f s) (codedS (b ++ z) m' sy di f' s)
  | 0, _, _, _ => Le.err _ _
  | f + 1, f', s, hf => by
    obtain ⟨g, rfl⟩ : ∃ g, f' = g + 1 := ⟨f' - 1, by omega⟩
    unfold codedS
    refine Le.bind (symS_le sy s) fun a => ?_
    try dsimp only
    split
    · exact Le.bind (tellS_le hm _ _) fun t => codedS_le hm sy di f g t (by omega)
    · split
      · exact Le.refl _
      · exact Le.bind (pieceS_le hm di _ _) fun t => codedS_le hm sy di f g t (by omega)
theorem codedP_le (hm : m ≤ m') (sy di : List Int) (s : St) : Le (codedP b m sy di s) (codedP (b ++ z) m' sy di s) := by
  unfold codedP
  split
  · exact codedS_le hm sy di _ _ s (by simp; omega)
  · exact Le.err _ _
theorem bytesS_le (hm : m ≤ m') : ∀ (n : Nat) (s : St), Le (bytesS b m n s) (bytesS (b ++ z) m' n s)
  | 0, _ => Le.refl _
  | n + 1, s => Le.bind (takeS_le 8 s) fun a => Le.bind (tellS_le hm _ _) fun t => bytesS_le hm n t
theorem storedS_le (hm : m ≤ m') (s : St) : Le (storedS b m s) (storedS (b ++ z) m' s) := by
  unfold storedS
  refine Le.bind (takeS_le _ _) fun a => Le.bind (takeS_le _ _) fun c => ?_
  try dsimp only
  split
  · exact bytesS_le hm _ _
  · exact Le.err _ _
theorem firstS_le : ∀ (os : List Nat) (n : Nat) (l : List Int) (s : St), Le (firstS b os n l s) (firstS (b ++ z) os n l s)
  | [], _, _, _ => Le.refl _
  | _ :: _, 0, _, _ => Le.refl _
  | i :: os, n + 1, l, s => Le.bind (takeS_le _ _) fun a => firstS_le os n _ _
theorem repS_le (row : List Int) (x : Nat) (s : St) : Le (repS b row x s) (repS (b ++ z) row x s) := by
  unfold repS
  split
  · split
    · exact Le.err _ _
    · exact Le.bind (takeS_le _ _) fun a => Le.refl _
  · split
    · exact Le.bind (takeS_le _ _) fun a => Le.refl _
    · split
      · exact Le.bind (takeS_le _ _) fun a => Le.refl _
      · exact Le.refl _
theorem rowS_le (fl : List Int) (al : Nat) : ∀ (f f' : Nat) (row : List Int) (s : St), f ≤ f' → Le (rowS b fl al f row s) (rowS (b ++ z) fl al f' row s)
  | 0, _, _, _, _ => Le.err _ _
  | f + 1, f', row, s, hf => by
    obtain ⟨g, rfl⟩ : ∃ g, f' = g + 1 := ⟨f' - 1, by omega⟩
    unfold rowS
    split
    · exact Le.refl _
    · refine Le.bind (symS_le fl s) fun a => Le.bind (repS_le _ _ _) fun c => ?_
      try dsimp only
      split
      · exact Le.err _ _
      · exact rowS_le fl al f g _ _ (by omega)
theorem dynS_le (hm : m ≤ m') (s : St) : Le (dynS b m s) (dynS (b ++ z) m' s) := by
  unfold dynS
  refine Le.bind (takeS_le _ _) fun a => ?_
  try dsimp only
  split
  · exact Le.err _ _
  refine Le.bind (takeS_le _ _) fun c => ?_
  try dsimp only
  split
  · exact Le.err _ _
  refine Le.bind (takeS_le _ _) fun d => Le.bind (firstS_le _ _ _ _) fun e => ?_
  try dsimp only
  split
  · refine Le.bind (rowS_le _ _ _ _ _ _ (by simp; omega)) fun g => ?_
    try dsimp only
    split
    · exact codedP_le hm _ _ _
    · exact Le.err _ _
  · exact Le.err _ _
theorem blockS_le (hm : m ≤ m') (k : Nat) (s : St) : Le (blockS b m k s) (blockS (b ++ z) m' k s) := by
  unfold blockS
  split
  · exact storedS_le hm s
  · split
    · exact codedP_le hm _ _ s
    · split
      · exact dynS_le hm s
      · exact Le.err _ _
theorem allS_le (hm : m ≤ m') : ∀ (f f' : Nat) (s : St), f ≤ f' → Le (allS b m f s) (allS (b ++ z) m' f' s)
  | 0, _, _, _ => Le.err _ _
  | f + 1, f', s, hf => by
    obtain ⟨g, rfl⟩ : ∃ g, f' = g + 1 := ⟨f' - 1, by omega⟩
    unfold allS
    refine Le.bind (takeS_le _ _) fun a => Le.bind (takeS_le _ _) fun c => Le.bind (blockS_le hm _ _) fun d => ?_
    try dsimp only
    split
    · exact Le.refl _
    · exact allS_le hm f g d (by omega)
theorem inflateS_le {m m' : Nat} (hm : m ≤ m') (h' : m' ≤ 65536) : Le (inflateS b (m : Int)) (inflateS (b ++ z) (m' : Int)) := fun r h => by
  unfold inflateS at h ⊢
  rw [if_neg (by omega)] at h ⊢
  simp only [Int.toNat_natCast] at h ⊢
  cases ha : allS b m (8 * b.length + 1) ⟨0, []⟩ with
  | error k => rw [ha] at h; cases h
  | ok s => rw [ha] at h; rw [allS_le hm _ _ _ (by simp; omega) s ha]; exact h
end

/-- Whatever is answered is so. -/
def Has {α : Type} (P : α → Prop) (X : Except Int α) : Prop := ∀ r, X = .ok r → P r
theorem Has.err {α : Type} {P : α → Prop} (k : Int) : Has P (.error k) := fun _ h => by cases h
theorem Has.ok {α : Type} {P : α → Prop} {a : α} (h : P a) : Has P (.ok a) := fun _ e => by cases e; exact h
theorem Has.bind {α β : Type} {P : α → Prop} {Q : β → Prop} {X : Except Int α} {f : α → Except Int β} (h : Has P X) (hf : ∀ a, P a → Has Q (f a)) : Has Q (X.bind f) := fun r e => by
  cases hX : X with
  | error k => rw [hX] at e; cases e
  | ok a => rw [hX] at e; exact hf a (h a hX) r e

/-- The place lies within the stream, the bytes within the bound. -/
def Inv (b : List Int) (m : Nat) (s : St) : Prop := s.pos ≤ 8 * b.length ∧ s.out.length ≤ m
section
variable {b : List Int} {m : Nat}
theorem takeS_inv {s : St} (h : Inv b m s) (n : Nat) : Has (fun r => Inv b m r.2) (takeS b n s) := by
  unfold takeS
  split
  · rename_i hp
    exact Has.ok ⟨hp, h.2⟩
  · exact Has.err _
theorem tellS_inv {s : St} (h : Inv b m s) (c : Int) : Has (Inv b m) (tellS m c s) := by
  unfold tellS
  split
  · rename_i hp
    exact Has.ok ⟨h.1, by simp; omega⟩
  · exact Has.err _
end
end Wf

namespace Go.Proofs.Ytkdjljnplfempaa
open Wf
section
variable {b : List Int} {m : Nat}
theorem symS_inv {s : St} (h : Inv b m s) (ls : List Int) : Has (fun r => Inv b m r.2) (symS ls b s) := by
  unfold symS
  cases hg : symGo ls b s.pos 16 0 0 with
  | error k => exact Has.err _
  | ok y => exact Has.ok ⟨(symGo_bound ls b s.pos 16 0 0 y.1 y.2 hg).1, h.2⟩
theorem copyS_inv (k : Nat) : ∀ (n : Nat) (s : St), Inv b m s → Has (Inv b m) (copyS m k n s)
  | 0, _, h => Has.ok h
  | n + 1, _, h => Has.bind (tellS_inv h _) fun a ha => copyS_inv k n a ha
theorem pieceS_inv {s : St} (h : Inv b m s) (di : List Int) (x : Nat) : Has (Inv b m) (pieceS b m di x s) := by
  unfold pieceS
  split
  · exact Has.err _
  · refine Has.bind (takeS_inv h _) fun a ha => Has.bind (symS_inv ha _) fun d hd => ?_
    try dsimp only
    split
    · exact Has.err _
    · refine Has.bind (takeS_inv hd _) fun e he => ?_
      try dsimp only
      split
      · exact Has.err _
      · exact copyS_inv _ _ _ he
theorem codedS_inv (sy di : List Int) : ∀ (f : Nat) (s : St), Inv b m s → Has (Inv b m) (codedS b m sy di f s)
  | 0, _, _ => Has.err _
  | f + 1, s, h => by
    unfold codedS
    refine Has.bind (symS_inv h sy) fun a ha => ?_
    try dsimp only
    split
    · exact Has.bind (tellS_inv ha _) fun t ht => codedS_inv sy di f t ht
    · split
      · exact Has.ok ha
      · exact Has.bind (pieceS_inv ha di _) fun t ht => codedS_inv sy di f t ht
theorem codedP_inv {s : St} (h : Inv b m s) (sy di : List Int) : Has (Inv b m) (codedP b m sy di s) := by
  unfold codedP
  split
  · exact codedS_inv sy di _ s h
  · exact Has.err _
theorem bytesS_inv : ∀ (n : Nat) (s : St), Inv b m s → Has (Inv b m) (bytesS b m n s)
  | 0, _, h => Has.ok h
  | n + 1, _, h => Has.bind (takeS_inv h 8) fun _ ha => Has.bind (tellS_inv ha _) fun t ht => bytesS_inv n t ht
theorem storedS_inv {s : St} (h : Inv b m s) : Has (Inv b m) (storedS b m s) := by
  unfold storedS
  have h0 : Inv b m ⟨(s.pos + 7) / 8 * 8, s.out⟩ := ⟨by have := h.1; show (s.pos + 7) / 8 * 8 ≤ 8 * b.length; omega, h.2⟩
  refine Has.bind (takeS_inv h0 _) fun a ha => Has.bind (takeS_inv ha _) fun c hc => ?_
  try dsimp only
  split
  · exact bytesS_inv _ _ hc
  · exact Has.err _
theorem firstS_inv : ∀ (os : List Nat) (n : Nat) (l : List Int) (s : St), Inv b m s → Has (fun r => Inv b m r.2) (firstS b os n l s)
  | [], _, _, _, h => Has.ok h
  | _ :: _, 0, _, _, h => Has.ok h
  | _ :: os, n + 1, _, _, h => Has.bind (takeS_inv h _) fun _ ha => firstS_inv os n _ _ ha
theorem repS_inv {s : St} (h : Inv b m s) (row : List Int) (x : Nat) : Has (fun r => Inv b m r.2) (repS b row x s) := by
  unfold repS
  split
  · split
    · exact Has.err _
    · exact Has.bind (takeS_inv h _) fun _ ha => Has.ok ha
  · split
    · exact Has.bind (takeS_inv h _) fun _ ha => Has.ok ha
    · split
      · exact Has.bind (takeS_inv h _) fun _ ha => Has.ok ha
      · exact Has.ok h
theorem rowS_inv (fl : List Int) (al : Nat) : ∀ (f : Nat) (row : List Int) (s : St), Inv b m s → Has (fun r => Inv b m r.2) (rowS b fl al f row s)
  | 0, _, _, _ => Has.err _
  | f + 1, row, s, h => by
    unfold rowS
    split
    · exact Has.ok h
    · refine Has.bind (symS_inv h fl) fun a ha => Has.bind (repS_inv ha _ _) fun c hc => ?_
      try dsimp only
      split
      · exact Has.err _
      · exact rowS_inv fl al f _ _ hc
theorem dynS_inv {s : St} (h : Inv b m s) : Has (Inv b m) (dynS b m s) := by
  unfold dynS
  refine Has.bind (takeS_inv h _) fun a ha => ?_
  try dsimp only
  split
  · exact Has.err _
  refine Has.bind (takeS_inv ha _) fun c hc => ?_
  try dsimp only
  split
  · exact Has.err _
  refine Has.bind (takeS_inv hc _) fun d hd => Has.bind (firstS_inv _ _ _ _ hd) fun e he => ?_
  try dsimp only
  split
  · refine Has.bind (rowS_inv _ _ _ _ _ he) fun g hg => ?_
    try dsimp only
    split
    · exact codedP_inv hg _ _
    · exact Has.err _
  · exact Has.err _
theorem blockS_inv {s : St} (h : Inv b m s) (k : Nat) : Has (Inv b m) (blockS b m k s) := by
  unfold blockS
  split
  · exact storedS_inv h
  · split
    · exact codedP_inv h _ _
    · split
      · exact dynS_inv h
      · exact Has.err _
theorem allS_inv : ∀ (f : Nat) (s : St), Inv b m s → Has (Inv b m) (allS b m f s)
  | 0, _, _ => Has.err _
  | f + 1, s, h => by
    unfold allS
    refine Has.bind (takeS_inv h _) fun a ha => Has.bind (takeS_inv ha _) fun c hc => Has.bind (blockS_inv hc _) fun d hd => ?_
    try dsimp only
    split
    · exact Has.ok hd
    · exact allS_inv f d hd
theorem inflateS_inv {out : List Int} {used : Nat} (h : inflateS b (m : Int) = .ok (out, used)) : used ≤ b.length ∧ out.length ≤ m := by
  unfold inflateS at h
  split at h
  · cases h
  · simp only [Int.toNat_natCast] at h
    cases ha : allS b m (8 * b.length + 1) ⟨0, []⟩ with
    | error k => rw [ha] at h; cases h
    | ok s =>
      rw [ha] at h
      have hi := allS_inv _ _ (show Inv b m ⟨0, []⟩ from ⟨Nat.zero_le _, Nat.zero_le _⟩) s ha
      cases h
      exact ⟨by have := hi.1; omega, hi.2⟩
end
end Go.Proofs.Ytkdjljnplfempaa

namespace Go.Proofs.Ytkdjljnplfempaa
open Wf
/-- No error is 0. -/
def Bad0 {α : Type} (X : Except Int α) : Prop := ∀ k, X = .error k → k ≠ 0
theorem Bad0.ok {α : Type} (a : α) : Bad0 (.ok a : Except Int α) := fun _ e => by cases e
theorem Bad0.err {α : Type} {k : Int} (h : k ≠ 0) : Bad0 (.error k : Except Int α) := fun _ e => by cases e; exact h
theorem Bad0.bind {α β : Type} {X : Except Int α} {f : α → Except Int β} (h : Bad0 X) (hf : ∀ a, Bad0 (f a)) : Bad0 (X.bind f) := fun k e => by
  cases hX : X with
  | error j => rw [hX] at e; injection e with e; rw [← e]; exact h j hX
  | ok a => rw [hX] at e; exact hf a k e
section
variable {b : List Int} {m : Nat}
theorem takeS_bad (n : Nat) (s : St) : Bad0 (takeS b n s) := by
  unfold takeS
  split
  · exact Bad0.ok _
  · exact Bad0.err (by decide)
theorem tellS_bad (c : Int) (s : St) : Bad0 (tellS m c s) := by
  unfold tellS
  split
  · exact Bad0.ok _
  · exact Bad0.err (by decide)
theorem symGo_bad (ls : List Int) (p : Nat) : ∀ (f n c : Nat), Bad0 (symGo ls b p f n c)
  | 0, _, _ => Bad0.err (by decide)
  | f + 1, n, c => by
    unfold symGo
    split
    · exact Bad0.err (by decide)
    · split
      · exact Bad0.err (by decide)
      · split
        · exact Bad0.ok _
        · exact symGo_bad ls p f _ _
theorem symS_bad (ls : List Int) (s : St) : Bad0 (symS ls b s) := fun k h => by
  unfold symS at h
  cases hg : symGo ls b s.pos 16 0 0 with
  | error j => rw [hg] at h; injection h with h; rw [← h]; exact symGo_bad ls s.pos 16 0 0 j hg
  | ok y => rw [hg] at h; cases h
theorem copyS_bad (k : Nat) : ∀ (n : Nat) (s : St), Bad0 (copyS m k n s)
  | 0, _ => Bad0.ok _
  | n + 1, s => Bad0.bind (tellS_bad _ s) fun a => copyS_bad k n a
theorem pieceS_bad (di : List Int) (x : Nat) (s : St) : Bad0 (pieceS b m di x s) := by
  unfold pieceS
  split
  · exact Bad0.err (by decide)
  · refine Bad0.bind (takeS_bad _ s) fun a => Bad0.bind (symS_bad di a.2) fun d => ?_
    try dsimp only
    split
    · exact Bad0.err (by decide)
    · refine Bad0.bind (takeS_bad _ _) fun e => ?_
      try dsimp only
      split
      · exact Bad0.err (by decide)
      · exact copyS_bad _ _ _
theorem codedS_bad (sy di : List Int) : ∀ (f : Nat) (s : St), Bad0 (codedS b m sy di f s)
  | 0, _ => Bad0.err (by decide)
  | f + 1, s => by
    unfold codedS
    refine Bad0.bind (symS_bad sy s) fun a => ?_
    try dsimp only
    split
    · exact Bad0.bind (tellS_bad _ _) fun t => codedS_bad sy di f t
    · split
      · exact Bad0.ok _
      · exact Bad0.bind (pieceS_bad di _ _) fun t => codedS_bad sy di f t
theorem codedP_bad (sy di : List Int) (s : St) : Bad0 (codedP b m sy di s) := by
  unfold codedP
  split
  · exact codedS_bad sy di _ s
  · exact Bad0.err (by decide)
theorem bytesS_bad : ∀ (n : Nat) (s : St), Bad0 (bytesS b m n s)
  | 0, _ => Bad0.ok _
  | n + 1, s => Bad0.bind (takeS_bad 8 s) fun _ => Bad0.bind (tellS_bad _ _) fun t => bytesS_bad n t
theorem storedS_bad (s : St) : Bad0 (storedS b m s) := by
  unfold storedS
  refine Bad0.bind (takeS_bad _ _) fun a => Bad0.bind (takeS_bad _ _) fun c => ?_
  try dsimp only
  split
  · exact bytesS_bad _ _
  · exact Bad0.err (by decide)
theorem firstS_bad : ∀ (os : List Nat) (n : Nat) (l : List Int) (s : St), Bad0 (firstS b os n l s)
  | [], _, _, _ => Bad0.ok _
  | _ :: _, 0, _, _ => Bad0.ok _
  | _ :: os, n + 1, _, _ => Bad0.bind (takeS_bad _ _) fun _ => firstS_bad os n _ _
theorem repS_bad (row : List Int) (x : Nat) (s : St) : Bad0 (repS b row x s) := by
  unfold repS
  split
  · split
    · exact Bad0.err (by decide)
    · exact Bad0.bind (takeS_bad _ _) fun _ => Bad0.ok _
  · split
    · exact Bad0.bind (takeS_bad _ _) fun _ => Bad0.ok _
    · split
      · exact Bad0.bind (takeS_bad _ _) fun _ => Bad0.ok _
      · exact Bad0.ok _
theorem rowS_bad (fl : List Int) (al : Nat) : ∀ (f : Nat) (row : List Int) (s : St), Bad0 (rowS b fl al f row s)
  | 0, _, _ => Bad0.err (by decide)
  | f + 1, row, s => by
    unfold rowS
    split
    · exact Bad0.ok _
    · refine Bad0.bind (symS_bad fl s) fun a => Bad0.bind (repS_bad _ _ _) fun c => ?_
      try dsimp only
      split
      · exact Bad0.err (by decide)
      · exact rowS_bad fl al f _ _
theorem dynS_bad (s : St) : Bad0 (dynS b m s) := by
  unfold dynS
  refine Bad0.bind (takeS_bad _ _) fun a => ?_
  try dsimp only
  split
  · exact Bad0.err (by decide)
  refine Bad0.bind (takeS_bad _ _) fun c => ?_
  try dsimp only
  split
  · exact Bad0.err (by decide)
  refine Bad0.bind (takeS_bad _ _) fun d => Bad0.bind (firstS_bad _ _ _ _) fun e => ?_
  try dsimp only
  split
  · refine Bad0.bind (rowS_bad _ _ _ _ _) fun g => ?_
    try dsimp only
    split
    · exact codedP_bad _ _ _
    · exact Bad0.err (by decide)
  · exact Bad0.err (by decide)
theorem blockS_bad (k : Nat) (s : St) : Bad0 (blockS b m k s) := by
  unfold blockS
  split
  · exact storedS_bad s
  · split
    · exact codedP_bad _ _ s
    · split
      · exact dynS_bad s
      · exact Bad0.err (by decide)
theorem allS_bad : ∀ (f : Nat) (s : St), Bad0 (allS b m f s)
  | 0, _ => Bad0.err (by decide)
  | f + 1, s => by
    unfold allS
    refine Bad0.bind (takeS_bad _ _) fun a => Bad0.bind (takeS_bad _ _) fun c => Bad0.bind (blockS_bad _ _) fun d => ?_
    try dsimp only
    split
    · exact Bad0.ok _
    · exact allS_bad f d
theorem inflateS_bad (most : Int) : Bad0 (inflateS b most) := fun k h => by
  unfold inflateS at h
  split at h
  · cases h; decide
  · cases ha : allS b most.toNat (8 * b.length + 1) ⟨0, []⟩ with
    | error j => rw [ha] at h; injection h with h; rw [← h]; exact allS_bad _ _ j ha
    | ok s => rw [ha] at h; cases h
end
end Go.Proofs.Ytkdjljnplfempaa
