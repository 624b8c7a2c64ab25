/- The letters of a number, as a plain list of bytes. -/
namespace Go.Proofs.Ytignhjfobcnloaa
/-- the letter number k behind the letter b -/
def byteAt (b k : Nat) : UInt8 := UInt8.ofNat (b + k)
/-- the letters U to Y of a number r -/
def lets (r : Nat) : List UInt8 := if r = 0 then [] else lets ((r - 1) / 5) ++ [byteAt 85 ((r - 1) % 5)]
termination_by r
decreasing_by omega
/-- the letters of a number -/
def lettersS (n : Nat) : List UInt8 := lets ((n - 1) / 20) ++ [byteAt 65 ((n - 1) % 20)]
theorem lets_zero : lets 0 = [] := by rw [lets]; simp
theorem lets_pos {r : Nat} (h : 0 < r) : lets r = lets ((r - 1) / 5) ++ [byteAt 85 ((r - 1) % 5)] := by
  rw [lets, if_neg (by omega)]
theorem byteAt_toNat {b k : Nat} (h : b + k < 256) : (byteAt b k).toNat = b + k := by
  unfold byteAt; simp [UInt8.toNat_ofNat']; omega
end Go.Proofs.Ytignhjfobcnloaa
