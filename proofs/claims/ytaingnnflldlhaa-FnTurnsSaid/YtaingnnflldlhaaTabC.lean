/- The check of the products of the turns for the sizes 101 to 120, by the kernel. No program in sight. -/
import Derived.Test.YtaingnnflldlhaaTab
namespace Go.Proofs.Ytaingnnflldlhaa.Fl

theorem upC {P : Nat → Prop} {a b : Nat} (h : ∀ n, a ≤ n → n ≤ b → P n) (k : P (b + 1)) : ∀ n, a ≤ n → n ≤ b + 1 → P n := by
  intro n h1 h2
  rcases Nat.lt_or_eq_of_le h2 with h3 | h3
  · exact h n h1 (by omega)
  · rw [h3]; exact k
theorem tk101 : turnF 101 = true := by decide +kernel
theorem ta101 : ∀ n, 101 ≤ n → n ≤ 101 → turnF n = true := fun n h1 h2 => by
  have e : n = 101 := by omega
  rw [e]; exact tk101
theorem tk102 : turnF 102 = true := by decide +kernel
theorem ta102 : ∀ n, 101 ≤ n → n ≤ 102 → turnF n = true := upC ta101 tk102
theorem tk103 : turnF 103 = true := by decide +kernel
theorem ta103 : ∀ n, 101 ≤ n → n ≤ 103 → turnF n = true := upC ta102 tk103
theorem tk104 : turnF 104 = true := by decide +kernel
theorem ta104 : ∀ n, 101 ≤ n → n ≤ 104 → turnF n = true := upC ta103 tk104
theorem tk105 : turnF 105 = true := by decide +kernel
theorem ta105 : ∀ n, 101 ≤ n → n ≤ 105 → turnF n = true := upC ta104 tk105
theorem tk106 : turnF 106 = true := by decide +kernel
theorem ta106 : ∀ n, 101 ≤ n → n ≤ 106 → turnF n = true := upC ta105 tk106
theorem tk107 : turnF 107 = true := by decide +kernel
theorem ta107 : ∀ n, 101 ≤ n → n ≤ 107 → turnF n = true := upC ta106 tk107
theorem tk108 : turnF 108 = true := by decide +kernel
theorem ta108 : ∀ n, 101 ≤ n → n ≤ 108 → turnF n = true := upC ta107 tk108
theorem tk109 : turnF 109 = true := by decide +kernel
theorem ta109 : ∀ n, 101 ≤ n → n ≤ 109 → turnF n = true := upC ta108 tk109
theorem tk110 : turnF 110 = true := by decide +kernel
theorem ta110 : ∀ n, 101 ≤ n → n ≤ 110 → turnF n = true := upC ta109 tk110
theorem tk111 : turnF 111 = true := by decide +kernel
theorem ta111 : ∀ n, 101 ≤ n → n ≤ 111 → turnF n = true := upC ta110 tk111
theorem tk112 : turnF 112 = true := by decide +kernel
theorem ta112 : ∀ n, 101 ≤ n → n ≤ 112 → turnF n = true := upC ta111 tk112
theorem tk113 : turnF 113 = true := by decide +kernel
theorem ta113 : ∀ n, 101 ≤ n → n ≤ 113 → turnF n = true := upC ta112 tk113
theorem tk114 : turnF 114 = true := by decide +kernel
theorem ta114 : ∀ n, 101 ≤ n → n ≤ 114 → turnF n = true := upC ta113 tk114
theorem tk115 : turnF 115 = true := by decide +kernel
theorem ta115 : ∀ n, 101 ≤ n → n ≤ 115 → turnF n = true := upC ta114 tk115
theorem tk116 : turnF 116 = true := by decide +kernel
theorem ta116 : ∀ n, 101 ≤ n → n ≤ 116 → turnF n = true := upC ta115 tk116
theorem tk117 : turnF 117 = true := by decide +kernel
theorem ta117 : ∀ n, 101 ≤ n → n ≤ 117 → turnF n = true := upC ta116 tk117
theorem tk118 : turnF 118 = true := by decide +kernel
theorem ta118 : ∀ n, 101 ≤ n → n ≤ 118 → turnF n = true := upC ta117 tk118
theorem tk119 : turnF 119 = true := by decide +kernel
theorem ta119 : ∀ n, 101 ≤ n → n ≤ 119 → turnF n = true := upC ta118 tk119
theorem tk120 : turnF 120 = true := by decide +kernel
theorem ta120 : ∀ n, 101 ≤ n → n ≤ 120 → turnF n = true := upC ta119 tk120

end Go.Proofs.Ytaingnnflldlhaa.Fl
