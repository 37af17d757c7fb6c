/- Part of the proof: contracts of the functions, walked by the D-machine. No condition. -/
import Derived.Test.YtmbnkgagicgcoaaDoorMT5
set_option linter.unusedSimpArgs false
set_option linter.unusedVariables false
set_option maxHeartbeats 4000000
set_option maxRecDepth 100000
namespace Go.Proofs.Dm
open Go Go.Proofs Go.Proofs.Tryd
namespace Rs
open Sc
theorem get_if (t : ByteArray) (k : Nat) : t[k]? = if k < t.size then some (t.get! k) else none := by
  by_cases h : k < t.size
  · rw [if_pos h]
    have := Go.get_at t k h
    rw [Nat.add_zero] at this
    rw [this]
    simp [h]
  · rw [if_neg h]
    simp; omega
theorem get!_none (t : ByteArray) (k : Nat) (h : t.size ≤ k) : t.get! k = 0 := by
  have : ¬ k < t.size := by omega
  cases t with
  | mk d =>
    simp only [ByteArray.get!]
    rw [getElem!_neg]
    · rfl
    · have : d.size ≤ k := h
      omega
theorem get!_extract (s : ByteArray) (i k : Nat) : (s.extract i s.size).get! k = s.get! (i + k) := by
  have hz : (s.extract i s.size).size = s.size - i := by simp
  have h1 := get_if (s.extract i s.size) k
  have h2 := get_if s (i + k)
  by_cases h : i + k < s.size
  · rw [if_pos h] at h2
    rw [if_pos (by omega)] at h1
    have : (s.extract i s.size)[k]? = s[i + k]? := by
      rw [ba_get, ba_get, ext_list, List.getElem?_take_of_lt (by omega), List.getElem?_drop]
    rw [this, h2] at h1
    exact (Option.some.inj h1).symm
  · rw [get!_none _ _ (by omega), get!_none _ _ (by omega)]
def dN (t : ByteArray) : Nat × Nat := Lib.decodeN t.size (t.get! 0).toNat (t.get! 1).toNat (t.get! 2).toNat (t.get! 3).toNat
def fin (n : Nat) (low r : Int) : Int × Bool := if r < low ∨ 1114111 < r ∨ (55296 ≤ r ∧ r < 57344) then (1, false) else (n, true)
theorem decE2 (t : ByteArray) (low r : Int) : decE t 2 low r = if t.size < 2 then (1, false) else if ((t.get! 1).toNat : Int) < 128 ∨ 191 < ((t.get! 1).toNat : Int) then (1, false) else fin 2 low (r * 64 + (t.get! 1).toNat - 128) := by
  by_cases h : t.size < 2
  · have h' : (t.size : Int) < 2 := by omega
    simp [decE, h, h']
  · have h' : ¬ (t.size : Int) < 2 := by omega
    have h1 : 1 < t.size := by omega
    simp only [decE, decL, get_if, Nat.reduceAdd, Nat.reduceLT, if_true, if_pos h1, if_neg h, Nat.lt_irrefl, if_false]
    rw [if_neg (by simpa using h')]
    by_cases c : ((t.get! 1).toNat : Int) < 128 ∨ 191 < ((t.get! 1).toNat : Int)
    · simp only [if_pos c]
    · simp only [if_neg c, fin]
theorem decE3 (t : ByteArray) (low r : Int) : decE t 3 low r = if t.size < 3 then (1, false) else if ((t.get! 1).toNat : Int) < 128 ∨ 191 < ((t.get! 1).toNat : Int) then (1, false) else if ((t.get! 2).toNat : Int) < 128 ∨ 191 < ((t.get! 2).toNat : Int) then (1, false) else fin 3 low ((r * 64 + (t.get! 1).toNat - 128) * 64 + (t.get! 2).toNat - 128) := by
  by_cases h : t.size < 3
  · have h' : (t.size : Int) < 3 := by omega
    simp [decE, h, h']
  · have h' : ¬ (t.size : Int) < 3 := by omega
    have h1 : 1 < t.size := by omega
    have h2 : 2 < t.size := by omega
    simp only [decE, decL, get_if, Nat.reduceAdd, Nat.reduceLT, if_true, if_pos h1, if_pos h2, if_neg h, Nat.lt_irrefl, if_false]
    rw [if_neg (by simpa using h')]
    by_cases c : ((t.get! 1).toNat : Int) < 128 ∨ 191 < ((t.get! 1).toNat : Int)
    · simp only [if_pos c]
    · simp only [if_neg c]
      by_cases c2 : ((t.get! 2).toNat : Int) < 128 ∨ 191 < ((t.get! 2).toNat : Int)
      · simp only [if_pos c2]
      · simp only [if_neg c2, fin]
theorem decE4 (t : ByteArray) (low r : Int) : decE t 4 low r = if t.size < 4 then (1, false) else if ((t.get! 1).toNat : Int) < 128 ∨ 191 < ((t.get! 1).toNat : Int) then (1, false) else if ((t.get! 2).toNat : Int) < 128 ∨ 191 < ((t.get! 2).toNat : Int) then (1, false) else if ((t.get! 3).toNat : Int) < 128 ∨ 191 < ((t.get! 3).toNat : Int) then (1, false) else fin 4 low (((r * 64 + (t.get! 1).toNat - 128) * 64 + (t.get! 2).toNat - 128) * 64 + (t.get! 3).toNat - 128) := by
  by_cases h : t.size < 4
  · have h' : (t.size : Int) < 4 := by omega
    simp [decE, h, h']
  · have h' : ¬ (t.size : Int) < 4 := by omega
    have h1 : 1 < t.size := by omega
    have h2 : 2 < t.size := by omega
    have h3 : 3 < t.size := by omega
    simp only [decE, decL, get_if, Nat.reduceAdd, Nat.reduceLT, if_true, if_pos h1, if_pos h2, if_pos h3, if_neg h, Nat.lt_irrefl, if_false]
    rw [if_neg (by simpa using h')]
    by_cases c : ((t.get! 1).toNat : Int) < 128 ∨ 191 < ((t.get! 1).toNat : Int)
    · simp only [if_pos c]
    · simp only [if_neg c]
      by_cases c2 : ((t.get! 2).toNat : Int) < 128 ∨ 191 < ((t.get! 2).toNat : Int)
      · simp only [if_pos c2]
      · simp only [if_neg c2]
        by_cases c3 : ((t.get! 3).toNat : Int) < 128 ∨ 191 < ((t.get! 3).toNat : Int)
        · simp only [if_pos c3]
        · simp only [if_neg c3, fin]
def decN (n b0 b1 b2 b3 : Nat) : Int × Bool :=
  if (b0 : Int) < 128 then (1, true)
  else if 192 ≤ (b0 : Int) ∧ (b0 : Int) < 224 then (if n < 2 then (1, false) else if (b1 : Int) < 128 ∨ 191 < (b1 : Int) then (1, false) else fin 2 128 (((b0 : Int) - 192) * 64 + b1 - 128))
  else if 224 ≤ (b0 : Int) ∧ (b0 : Int) < 240 then (if n < 3 then (1, false) else if (b1 : Int) < 128 ∨ 191 < (b1 : Int) then (1, false) else if (b2 : Int) < 128 ∨ 191 < (b2 : Int) then (1, false) else fin 3 2048 ((((b0 : Int) - 224) * 64 + b1 - 128) * 64 + b2 - 128))
  else if 240 ≤ (b0 : Int) ∧ (b0 : Int) < 248 then (if n < 4 then (1, false) else if (b1 : Int) < 128 ∨ 191 < (b1 : Int) then (1, false) else if (b2 : Int) < 128 ∨ 191 < (b2 : Int) then (1, false) else if (b3 : Int) < 128 ∨ 191 < (b3 : Int) then (1, false) else fin 4 65536 (((((b0 : Int) - 240) * 64 + b1 - 128) * 64 + b2 - 128) * 64 + b3 - 128))
  else (1, false)
theorem fin_eq (n : Nat) (low r : Int) (R : Nat) (hn : n ≠ 1) (hr : (R : Int) = r) (hlow : 0 ≤ low) (c : Prop) [Decidable c] (hc : c ↔ ¬ (r < low ∨ 1114111 < r ∨ (55296 ≤ r ∧ r < 57344))) :
    fin n low r = (((if c then (R, n) else (65533, 1)).2 : Int), !(decide ((if c then (R, n) else (65533, 1)).1 = 65533) && decide ((if c then (R, n) else (65533, 1)).2 = 1))) := by
  unfold fin
  by_cases h : r < low ∨ 1114111 < r ∨ (55296 ≤ r ∧ r < 57344)
  · have : ¬ c := fun q => (hc.1 q) h
    rw [if_pos h, if_neg this]; rfl
  · have : c := hc.2 h
    rw [if_neg h, if_pos this]
    simp [hn]
theorem decN_eq (n b0 b1 b2 b3 : Nat) (h0 : 0 < n) (l0 : b0 < 256) (l1 : b1 < 256) (l2 : b2 < 256) (l3 : b3 < 256) :
    decN n b0 b1 b2 b3 = (((Lib.decodeN n b0 b1 b2 b3).2 : Int), !(decide ((Lib.decodeN n b0 b1 b2 b3).1 = 65533) && decide ((Lib.decodeN n b0 b1 b2 b3).2 = 1))) := by
  unfold decN Lib.decodeN
  by_cases q : b0 < 128
  · rw [if_pos (by omega), if_pos q]
    simp
    omega
  rw [if_neg (by omega), if_neg q]
  by_cases q1 : 192 ≤ b0 ∧ b0 < 224
  · rw [if_pos (by omega)]
    by_cases c : 1 < n ∧ b1 / 64 = 2
    · rw [if_neg (by omega), if_neg (by omega), if_pos ⟨by omega, c⟩]
      exact fin_eq 2 128 _ _ (by decide) (by omega) (by decide) _ (by constructor <;> intro h <;> omega)
    · rw [if_neg (show ¬ (b0 / 32 = 6 ∧ 1 < n ∧ b1 / 64 = 2) from fun h => c h.2), if_neg (show ¬ (b0 / 16 = 14 ∧ _) from fun h => by omega), if_neg (show ¬ (b0 / 8 = 30 ∧ _) from fun h => by omega)]
      by_cases c1 : n < 2
      · rw [if_pos c1]; rfl
      · rw [if_neg c1, if_pos (by omega)]; rfl
  rw [if_neg (by omega), if_neg (show ¬ (b0 / 32 = 6 ∧ _) from fun h => by omega)]
  by_cases q2 : 224 ≤ b0 ∧ b0 < 240
  · rw [if_pos (by omega)]
    by_cases c : (1 < n ∧ b1 / 64 = 2) ∧ (2 < n ∧ b2 / 64 = 2)
    · rw [if_neg (by omega), if_neg (by omega), if_neg (by omega), if_pos ⟨by omega, c⟩]
      exact fin_eq 3 2048 _ _ (by decide) (by omega) (by decide) _ (by constructor <;> intro h <;> omega)
    · rw [if_neg (show ¬ (b0 / 16 = 14 ∧ (1 < n ∧ b1 / 64 = 2) ∧ (2 < n ∧ b2 / 64 = 2)) from fun h => c h.2), if_neg (show ¬ (b0 / 8 = 30 ∧ _) from fun h => by omega)]
      by_cases c1 : n < 3
      · rw [if_pos c1]; rfl
      · rw [if_neg c1]
        by_cases c2 : (b1 : Int) < 128 ∨ 191 < (b1 : Int)
        · rw [if_pos c2]; rfl
        · rw [if_neg c2, if_pos (by omega)]; rfl
  rw [if_neg (by omega), if_neg (show ¬ (b0 / 16 = 14 ∧ _) from fun h => by omega)]
  by_cases q3 : 240 ≤ b0 ∧ b0 < 248
  · rw [if_pos (by omega)]
    by_cases c : (1 < n ∧ b1 / 64 = 2) ∧ (2 < n ∧ b2 / 64 = 2) ∧ (3 < n ∧ b3 / 64 = 2)
    · rw [if_neg (by omega), if_neg (by omega), if_neg (by omega), if_neg (by omega), if_pos ⟨by omega, c⟩]
      exact fin_eq 4 65536 _ _ (by decide) (by omega) (by decide) _ (by constructor <;> intro h <;> omega)
    · rw [if_neg (show ¬ (b0 / 8 = 30 ∧ (1 < n ∧ b1 / 64 = 2) ∧ (2 < n ∧ b2 / 64 = 2) ∧ (3 < n ∧ b3 / 64 = 2)) from fun h => c h.2)]
      by_cases c1 : n < 4
      · rw [if_pos c1]; rfl
      · rw [if_neg c1]
        by_cases c2 : (b1 : Int) < 128 ∨ 191 < (b1 : Int)
        · rw [if_pos c2]; rfl
        · rw [if_neg c2]
          by_cases c3 : (b2 : Int) < 128 ∨ 191 < (b2 : Int)
          · rw [if_pos c3]; rfl
          · rw [if_neg c3, if_pos (by omega)]; rfl
  rw [if_neg (by omega), if_neg (show ¬ (b0 / 8 = 30 ∧ _) from fun h => by omega)]
  rfl
theorem decR_eq (t : ByteArray) (h : 0 < t.size) : decR t = (((dN t).2 : Int), !(decide ((dN t).1 = 65533) && decide ((dN t).2 = 1))) := by
  rw [dN, ← decN_eq _ _ _ _ _ h (UInt8.toNat_lt _) (UInt8.toNat_lt _) (UInt8.toNat_lt _) (UInt8.toNat_lt _)]
  simp only [decR, get_if, if_pos h, decE2, decE3, decE4, decN]
theorem decode_dN (s : ByteArray) (i : Nat) : Utf8.decode s i = dN (s.extract i s.size) := by
  rw [Lib.decode_at, dN, get!_extract, get!_extract, get!_extract, get!_extract]
  have hz : (s.extract i s.size).size = s.size - i := by simp
  rw [hz]
  rfl
theorem decodeGo_dN (t : ByteArray) (h : 0 < t.size) : Lib.decodeGo t = dN t := by
  rw [Lib.decodeGo, if_neg (by omega), Lib.decode_at, dN, Nat.sub_zero]
def badR (s : ByteArray) (i : Nat) : Bool := !(decR (s.extract i s.size)).2 || s[i]?.any (fun c => (decide ((c.toNat : Int) < 32) && ((c.toNat : Int) != 9) && ((c.toNat : Int) != 10)) || ((c.toNat : Int) == 127))
theorem dN_lead (t : ByteArray) : ((t.get! 0).toNat < 128 → dN t = ((t.get! 0).toNat, 1)) ∧ (128 ≤ (t.get! 0).toNat → 128 ≤ (dN t).1) := by
  constructor
  · intro h
    simp only [dN, Lib.decodeN, if_pos h]
  · intro h
    simp only [dN, Lib.decodeN]
    rw [if_neg (by omega)]
    repeat' split
    all_goals simp
    all_goals omega
theorem badR_eq (s : ByteArray) (i : Nat) (h : i < s.size) : badR s i = badAt s i := by
  have hz : (s.extract i s.size).size = s.size - i := by simp
  have hg : s[i]? = some (s.get! i) := by rw [get_if, if_pos h]
  have h0 : (s.extract i s.size).get! 0 = s.get! i := by rw [get!_extract, Nat.add_zero]
  simp only [badR, badAt, badN]
  rw [decode_dN, decodeGo_dN _ (by omega), decR_eq _ (by omega), hg]
  simp only [Option.any_some, Bool.not_not]
  obtain ⟨l1, l2⟩ := dN_lead (s.extract i s.size)
  rw [h0] at l1 l2
  generalize dN (s.extract i s.size) = d at *
  generalize (s.get! i).toNat = c at *
  rw [Bool.eq_iff_iff]
  simp only [Bool.or_eq_true, Bool.and_eq_true, decide_eq_true_eq, bne_iff_ne, beq_iff_eq, ne_eq]
  by_cases hc : c < 128
  · rw [l1 hc]
    simp only
    omega
  · have := l2 (by omega)
    omega
def faultR (s : ByteArray) : Nat → Nat → Int
  | 0, _ => -1
  | n + 1, i => if i < s.size then (if badR s i then (i : Int) else faultR s n (i + (decR (s.extract i s.size)).1.toNat)) else -1
theorem faultR_eq (s : ByteArray) : ∀ n i, faultR s n i = faultF s n i
  | 0, _ => rfl
  | n + 1, i => by
    simp only [faultR, faultF]
    by_cases h : i < s.size
    · have hz : (s.extract i s.size).size = s.size - i := by simp
      rw [if_pos h, if_pos h, badR_eq s i h, faultR_eq s n, decR_eq _ (by omega), decode_dN]
      rfl
    · rw [if_neg h, if_neg h]
theorem decR_pos (t : ByteArray) (h : 0 < t.size) : 1 ≤ (decR t).1 ∧ (decR t).1 ≤ 4 := by
  rw [decR_eq t h]
  simp only [dN, Lib.decodeN]
  repeat' split
  all_goals simp
end Rs
end Go.Proofs.Dm
