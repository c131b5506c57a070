/- The check of the products of the turns for the sizes 1 to 70, by the kernel. No program in sight. -/
import Derived.Test.YtaingnnflldlhaaTab
namespace Go.Proofs.Ytaingnnflldlhaa.Fl

theorem upA {P : Nat → Prop} {a b : Nat} (h : ∀ n, a ≤ n → n ≤ b → P n) (k : P (b + 1)) : ∀ n, a ≤ n → n ≤ b + 1 → P n := by
  intro n h1 h2
  rcases Nat.lt_or_eq_of_le h2 with h3 | h3
  · exact h n h1 (by omega)
  · rw [h3]; exact k
theorem tk1 : turnF 1 = true := by decide +kernel
theorem ta1 : ∀ n, 1 ≤ n → n ≤ 1 → turnF n = true := fun n h1 h2 => by
  have e : n = 1 := by omega
  rw [e]; exact tk1
theorem tk2 : turnF 2 = true := by decide +kernel
theorem ta2 : ∀ n, 1 ≤ n → n ≤ 2 → turnF n = true := upA ta1 tk2
theorem tk3 : turnF 3 = true := by decide +kernel
theorem ta3 : ∀ n, 1 ≤ n → n ≤ 3 → turnF n = true := upA ta2 tk3
theorem tk4 : turnF 4 = true := by decide +kernel
theorem ta4 : ∀ n, 1 ≤ n → n ≤ 4 → turnF n = true := upA ta3 tk4
theorem tk5 : turnF 5 = true := by decide +kernel
theorem ta5 : ∀ n, 1 ≤ n → n ≤ 5 → turnF n = true := upA ta4 tk5
theorem tk6 : turnF 6 = true := by decide +kernel
theorem ta6 : ∀ n, 1 ≤ n → n ≤ 6 → turnF n = true := upA ta5 tk6
theorem tk7 : turnF 7 = true := by decide +kernel
theorem ta7 : ∀ n, 1 ≤ n → n ≤ 7 → turnF n = true := upA ta6 tk7
theorem tk8 : turnF 8 = true := by decide +kernel
theorem ta8 : ∀ n, 1 ≤ n → n ≤ 8 → turnF n = true := upA ta7 tk8
theorem tk9 : turnF 9 = true := by decide +kernel
theorem ta9 : ∀ n, 1 ≤ n → n ≤ 9 → turnF n = true := upA ta8 tk9
theorem tk10 : turnF 10 = true := by decide +kernel
theorem ta10 : ∀ n, 1 ≤ n → n ≤ 10 → turnF n = true := upA ta9 tk10
theorem tk11 : turnF 11 = true := by decide +kernel
theorem ta11 : ∀ n, 1 ≤ n → n ≤ 11 → turnF n = true := upA ta10 tk11
theorem tk12 : turnF 12 = true := by decide +kernel
theorem ta12 : ∀ n, 1 ≤ n → n ≤ 12 → turnF n = true := upA ta11 tk12
theorem tk13 : turnF 13 = true := by decide +kernel
theorem ta13 : ∀ n, 1 ≤ n → n ≤ 13 → turnF n = true := upA ta12 tk13
theorem tk14 : turnF 14 = true := by decide +kernel
theorem ta14 : ∀ n, 1 ≤ n → n ≤ 14 → turnF n = true := upA ta13 tk14
theorem tk15 : turnF 15 = true := by decide +kernel
theorem ta15 : ∀ n, 1 ≤ n → n ≤ 15 → turnF n = true := upA ta14 tk15
theorem tk16 : turnF 16 = true := by decide +kernel
theorem ta16 : ∀ n, 1 ≤ n → n ≤ 16 → turnF n = true := upA ta15 tk16
theorem tk17 : turnF 17 = true := by decide +kernel
theorem ta17 : ∀ n, 1 ≤ n → n ≤ 17 → turnF n = true := upA ta16 tk17
theorem tk18 : turnF 18 = true := by decide +kernel
theorem ta18 : ∀ n, 1 ≤ n → n ≤ 18 → turnF n = true := upA ta17 tk18
theorem tk19 : turnF 19 = true := by decide +kernel
theorem ta19 : ∀ n, 1 ≤ n → n ≤ 19 → turnF n = true := upA ta18 tk19
theorem tk20 : turnF 20 = true := by decide +kernel
theorem ta20 : ∀ n, 1 ≤ n → n ≤ 20 → turnF n = true := upA ta19 tk20
theorem tk21 : turnF 21 = true := by decide +kernel
theorem ta21 : ∀ n, 1 ≤ n → n ≤ 21 → turnF n = true := upA ta20 tk21
theorem tk22 : turnF 22 = true := by decide +kernel
theorem ta22 : ∀ n, 1 ≤ n → n ≤ 22 → turnF n = true := upA ta21 tk22
theorem tk23 : turnF 23 = true := by decide +kernel
theorem ta23 : ∀ n, 1 ≤ n → n ≤ 23 → turnF n = true := upA ta22 tk23
theorem tk24 : turnF 24 = true := by decide +kernel
theorem ta24 : ∀ n, 1 ≤ n → n ≤ 24 → turnF n = true := upA ta23 tk24
theorem tk25 : turnF 25 = true := by decide +kernel
theorem ta25 : ∀ n, 1 ≤ n → n ≤ 25 → turnF n = true := upA ta24 tk25
theorem tk26 : turnF 26 = true := by decide +kernel
theorem ta26 : ∀ n, 1 ≤ n → n ≤ 26 → turnF n = true := upA ta25 tk26
theorem tk27 : turnF 27 = true := by decide +kernel
theorem ta27 : ∀ n, 1 ≤ n → n ≤ 27 → turnF n = true := upA ta26 tk27
theorem tk28 : turnF 28 = true := by decide +kernel
theorem ta28 : ∀ n, 1 ≤ n → n ≤ 28 → turnF n = true := upA ta27 tk28
theorem tk29 : turnF 29 = true := by decide +kernel
theorem ta29 : ∀ n, 1 ≤ n → n ≤ 29 → turnF n = true := upA ta28 tk29
theorem tk30 : turnF 30 = true := by decide +kernel
theorem ta30 : ∀ n, 1 ≤ n → n ≤ 30 → turnF n = true := upA ta29 tk30
theorem tk31 : turnF 31 = true := by decide +kernel
theorem ta31 : ∀ n, 1 ≤ n → n ≤ 31 → turnF n = true := upA ta30 tk31
theorem tk32 : turnF 32 = true := by decide +kernel
theorem ta32 : ∀ n, 1 ≤ n → n ≤ 32 → turnF n = true := upA ta31 tk32
theorem tk33 : turnF 33 = true := by decide +kernel
theorem ta33 : ∀ n, 1 ≤ n → n ≤ 33 → turnF n = true := upA ta32 tk33
theorem tk34 : turnF 34 = true := by decide +kernel
theorem ta34 : ∀ n, 1 ≤ n → n ≤ 34 → turnF n = true := upA ta33 tk34
theorem tk35 : turnF 35 = true := by decide +kernel
theorem ta35 : ∀ n, 1 ≤ n → n ≤ 35 → turnF n = true := upA ta34 tk35
theorem tk36 : turnF 36 = true := by decide +kernel
theorem ta36 : ∀ n, 1 ≤ n → n ≤ 36 → turnF n = true := upA ta35 tk36
theorem tk37 : turnF 37 = true := by decide +kernel
theorem ta37 : ∀ n, 1 ≤ n → n ≤ 37 → turnF n = true := upA ta36 tk37
theorem tk38 : turnF 38 = true := by decide +kernel
theorem ta38 : ∀ n, 1 ≤ n → n ≤ 38 → turnF n = true := upA ta37 tk38
theorem tk39 : turnF 39 = true := by decide +kernel
theorem ta39 : ∀ n, 1 ≤ n → n ≤ 39 → turnF n = true := upA ta38 tk39
theorem tk40 : turnF 40 = true := by decide +kernel
theorem ta40 : ∀ n, 1 ≤ n → n ≤ 40 → turnF n = true := upA ta39 tk40
theorem tk41 : turnF 41 = true := by decide +kernel
theorem ta41 : ∀ n, 1 ≤ n → n ≤ 41 → turnF n = true := upA ta40 tk41
theorem tk42 : turnF 42 = true := by decide +kernel
theorem ta42 : ∀ n, 1 ≤ n → n ≤ 42 → turnF n = true := upA ta41 tk42
theorem tk43 : turnF 43 = true := by decide +kernel
theorem ta43 : ∀ n, 1 ≤ n → n ≤ 43 → turnF n = true := upA ta42 tk43
theorem tk44 : turnF 44 = true := by decide +kernel
theorem ta44 : ∀ n, 1 ≤ n → n ≤ 44 → turnF n = true := upA ta43 tk44
theorem tk45 : turnF 45 = true := by decide +kernel
theorem ta45 : ∀ n, 1 ≤ n → n ≤ 45 → turnF n = true := upA ta44 tk45
theorem tk46 : turnF 46 = true := by decide +kernel
theorem ta46 : ∀ n, 1 ≤ n → n ≤ 46 → turnF n = true := upA ta45 tk46
theorem tk47 : turnF 47 = true := by decide +kernel
theorem ta47 : ∀ n, 1 ≤ n → n ≤ 47 → turnF n = true := upA ta46 tk47
theorem tk48 : turnF 48 = true := by decide +kernel
theorem ta48 : ∀ n, 1 ≤ n → n ≤ 48 → turnF n = true := upA ta47 tk48
theorem tk49 : turnF 49 = true := by decide +kernel
theorem ta49 : ∀ n, 1 ≤ n → n ≤ 49 → turnF n = true := upA ta48 tk49
theorem tk50 : turnF 50 = true := by decide +kernel
theorem ta50 : ∀ n, 1 ≤ n → n ≤ 50 → turnF n = true := upA ta49 tk50
theorem tk51 : turnF 51 = true := by decide +kernel
theorem ta51 : ∀ n, 1 ≤ n → n ≤ 51 → turnF n = true := upA ta50 tk51
theorem tk52 : turnF 52 = true := by decide +kernel
theorem ta52 : ∀ n, 1 ≤ n → n ≤ 52 → turnF n = true := upA ta51 tk52
theorem tk53 : turnF 53 = true := by decide +kernel
theorem ta53 : ∀ n, 1 ≤ n → n ≤ 53 → turnF n = true := upA ta52 tk53
theorem tk54 : turnF 54 = true := by decide +kernel
theorem ta54 : ∀ n, 1 ≤ n → n ≤ 54 → turnF n = true := upA ta53 tk54
theorem tk55 : turnF 55 = true := by decide +kernel
theorem ta55 : ∀ n, 1 ≤ n → n ≤ 55 → turnF n = true := upA ta54 tk55
theorem tk56 : turnF 56 = true := by decide +kernel
theorem ta56 : ∀ n, 1 ≤ n → n ≤ 56 → turnF n = true := upA ta55 tk56
theorem tk57 : turnF 57 = true := by decide +kernel
theorem ta57 : ∀ n, 1 ≤ n → n ≤ 57 → turnF n = true := upA ta56 tk57
theorem tk58 : turnF 58 = true := by decide +kernel
theorem ta58 : ∀ n, 1 ≤ n → n ≤ 58 → turnF n = true := upA ta57 tk58
theorem tk59 : turnF 59 = true := by decide +kernel
theorem ta59 : ∀ n, 1 ≤ n → n ≤ 59 → turnF n = true := upA ta58 tk59
theorem tk60 : turnF 60 = true := by decide +kernel
theorem ta60 : ∀ n, 1 ≤ n → n ≤ 60 → turnF n = true := upA ta59 tk60
theorem tk61 : turnF 61 = true := by decide +kernel
theorem ta61 : ∀ n, 1 ≤ n → n ≤ 61 → turnF n = true := upA ta60 tk61
theorem tk62 : turnF 62 = true := by decide +kernel
theorem ta62 : ∀ n, 1 ≤ n → n ≤ 62 → turnF n = true := upA ta61 tk62
theorem tk63 : turnF 63 = true := by decide +kernel
theorem ta63 : ∀ n, 1 ≤ n → n ≤ 63 → turnF n = true := upA ta62 tk63
theorem tk64 : turnF 64 = true := by decide +kernel
theorem ta64 : ∀ n, 1 ≤ n → n ≤ 64 → turnF n = true := upA ta63 tk64
theorem tk65 : turnF 65 = true := by decide +kernel
theorem ta65 : ∀ n, 1 ≤ n → n ≤ 65 → turnF n = true := upA ta64 tk65
theorem tk66 : turnF 66 = true := by decide +kernel
theorem ta66 : ∀ n, 1 ≤ n → n ≤ 66 → turnF n = true := upA ta65 tk66
theorem tk67 : turnF 67 = true := by decide +kernel
theorem ta67 : ∀ n, 1 ≤ n → n ≤ 67 → turnF n = true := upA ta66 tk67
theorem tk68 : turnF 68 = true := by decide +kernel
theorem ta68 : ∀ n, 1 ≤ n → n ≤ 68 → turnF n = true := upA ta67 tk68
theorem tk69 : turnF 69 = true := by decide +kernel
theorem ta69 : ∀ n, 1 ≤ n → n ≤ 69 → turnF n = true := upA ta68 tk69
theorem tk70 : turnF 70 = true := by decide +kernel
theorem ta70 : ∀ n, 1 ≤ n → n ≤ 70 → turnF n = true := upA ta69 tk70

end Go.Proofs.Ytaingnnflldlhaa.Fl
