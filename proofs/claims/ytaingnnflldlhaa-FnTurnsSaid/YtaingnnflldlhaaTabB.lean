/- The check of the products of the turns for the sizes 71 to 100, by the kernel. No program in sight. -/
import Derived.Test.YtaingnnflldlhaaTab
namespace Go.Proofs.Ytaingnnflldlhaa.Fl

theorem upB {P : Nat → Prop} {a b : Nat} (h : ∀ n, a ≤ n → n ≤ b → P n) (k : P (b + 1)) : ∀ n, a ≤ n → n ≤ b + 1 → P n := by
  intro n h1 h2
  rcases Nat.lt_or_eq_of_le h2 with h3 | h3
  · exact h n h1 (by omega)
  · rw [h3]; exact k
theorem tk71 : turnF 71 = true := by decide +kernel
theorem ta71 : ∀ n, 71 ≤ n → n ≤ 71 → turnF n = true := fun n h1 h2 => by
  have e : n = 71 := by omega
  rw [e]; exact tk71
theorem tk72 : turnF 72 = true := by decide +kernel
theorem ta72 : ∀ n, 71 ≤ n → n ≤ 72 → turnF n = true := upB ta71 tk72
theorem tk73 : turnF 73 = true := by decide +kernel
theorem ta73 : ∀ n, 71 ≤ n → n ≤ 73 → turnF n = true := upB ta72 tk73
theorem tk74 : turnF 74 = true := by decide +kernel
theorem ta74 : ∀ n, 71 ≤ n → n ≤ 74 → turnF n = true := upB ta73 tk74
theorem tk75 : turnF 75 = true := by decide +kernel
theorem ta75 : ∀ n, 71 ≤ n → n ≤ 75 → turnF n = true := upB ta74 tk75
theorem tk76 : turnF 76 = true := by decide +kernel
theorem ta76 : ∀ n, 71 ≤ n → n ≤ 76 → turnF n = true := upB ta75 tk76
theorem tk77 : turnF 77 = true := by decide +kernel
theorem ta77 : ∀ n, 71 ≤ n → n ≤ 77 → turnF n = true := upB ta76 tk77
theorem tk78 : turnF 78 = true := by decide +kernel
theorem ta78 : ∀ n, 71 ≤ n → n ≤ 78 → turnF n = true := upB ta77 tk78
theorem tk79 : turnF 79 = true := by decide +kernel
theorem ta79 : ∀ n, 71 ≤ n → n ≤ 79 → turnF n = true := upB ta78 tk79
theorem tk80 : turnF 80 = true := by decide +kernel
theorem ta80 : ∀ n, 71 ≤ n → n ≤ 80 → turnF n = true := upB ta79 tk80
theorem tk81 : turnF 81 = true := by decide +kernel
theorem ta81 : ∀ n, 71 ≤ n → n ≤ 81 → turnF n = true := upB ta80 tk81
theorem tk82 : turnF 82 = true := by decide +kernel
theorem ta82 : ∀ n, 71 ≤ n → n ≤ 82 → turnF n = true := upB ta81 tk82
theorem tk83 : turnF 83 = true := by decide +kernel
theorem ta83 : ∀ n, 71 ≤ n → n ≤ 83 → turnF n = true := upB ta82 tk83
theorem tk84 : turnF 84 = true := by decide +kernel
theorem ta84 : ∀ n, 71 ≤ n → n ≤ 84 → turnF n = true := upB ta83 tk84
theorem tk85 : turnF 85 = true := by decide +kernel
theorem ta85 : ∀ n, 71 ≤ n → n ≤ 85 → turnF n = true := upB ta84 tk85
theorem tk86 : turnF 86 = true := by decide +kernel
theorem ta86 : ∀ n, 71 ≤ n → n ≤ 86 → turnF n = true := upB ta85 tk86
theorem tk87 : turnF 87 = true := by decide +kernel
theorem ta87 : ∀ n, 71 ≤ n → n ≤ 87 → turnF n = true := upB ta86 tk87
theorem tk88 : turnF 88 = true := by decide +kernel
theorem ta88 : ∀ n, 71 ≤ n → n ≤ 88 → turnF n = true := upB ta87 tk88
theorem tk89 : turnF 89 = true := by decide +kernel
theorem ta89 : ∀ n, 71 ≤ n → n ≤ 89 → turnF n = true := upB ta88 tk89
theorem tk90 : turnF 90 = true := by decide +kernel
theorem ta90 : ∀ n, 71 ≤ n → n ≤ 90 → turnF n = true := upB ta89 tk90
theorem tk91 : turnF 91 = true := by decide +kernel
theorem ta91 : ∀ n, 71 ≤ n → n ≤ 91 → turnF n = true := upB ta90 tk91
theorem tk92 : turnF 92 = true := by decide +kernel
theorem ta92 : ∀ n, 71 ≤ n → n ≤ 92 → turnF n = true := upB ta91 tk92
theorem tk93 : turnF 93 = true := by decide +kernel
theorem ta93 : ∀ n, 71 ≤ n → n ≤ 93 → turnF n = true := upB ta92 tk93
theorem tk94 : turnF 94 = true := by decide +kernel
theorem ta94 : ∀ n, 71 ≤ n → n ≤ 94 → turnF n = true := upB ta93 tk94
theorem tk95 : turnF 95 = true := by decide +kernel
theorem ta95 : ∀ n, 71 ≤ n → n ≤ 95 → turnF n = true := upB ta94 tk95
theorem tk96 : turnF 96 = true := by decide +kernel
theorem ta96 : ∀ n, 71 ≤ n → n ≤ 96 → turnF n = true := upB ta95 tk96
theorem tk97 : turnF 97 = true := by decide +kernel
theorem ta97 : ∀ n, 71 ≤ n → n ≤ 97 → turnF n = true := upB ta96 tk97
theorem tk98 : turnF 98 = true := by decide +kernel
theorem ta98 : ∀ n, 71 ≤ n → n ≤ 98 → turnF n = true := upB ta97 tk98
theorem tk99 : turnF 99 = true := by decide +kernel
theorem ta99 : ∀ n, 71 ≤ n → n ≤ 99 → turnF n = true := upB ta98 tk99
theorem tk100 : turnF 100 = true := by decide +kernel
theorem ta100 : ∀ n, 71 ≤ n → n ≤ 100 → turnF n = true := upB ta99 tk100

end Go.Proofs.Ytaingnnflldlhaa.Fl
