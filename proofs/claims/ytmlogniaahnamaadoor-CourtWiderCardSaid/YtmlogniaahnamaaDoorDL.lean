/- Texts of the proof. -/
import Derived.Test.YtmlogniaahnamaaDoorProg
import Derived.KernelRfl
import Derived.Test.YtmlogniaahnamaaDoorDC
set_option linter.all false
namespace Go.RS.DC
open Go Go.RS Go.Proofs
set_option maxRecDepth 100000
theorem low5 : lowFn Tryd.prog 5 = some F5 := by kernel_rfl
theorem low9 : lowFn Tryd.prog 9 = some F9 := by kernel_rfl
theorem low10 : lowFn Tryd.prog 10 = some F10 := by kernel_rfl
theorem low12 : lowFn Tryd.prog 12 = some F12 := by kernel_rfl
theorem low13 : lowFn Tryd.prog 13 = some F13 := by kernel_rfl
theorem low14 : lowFn Tryd.prog 14 = some F14 := by kernel_rfl
theorem low15 : lowFn Tryd.prog 15 = some F15 := by kernel_rfl
theorem low16 : lowFn Tryd.prog 16 = some F16 := by kernel_rfl
theorem low17 : lowFn Tryd.prog 17 = some F17 := by kernel_rfl
theorem low18 : lowFn Tryd.prog 18 = some F18 := by kernel_rfl
theorem low21 : lowFn Tryd.prog 21 = some F21 := by kernel_rfl
theorem low22 : lowFn Tryd.prog 22 = some F22 := by kernel_rfl
theorem low23 : lowFn Tryd.prog 23 = some F23 := by kernel_rfl
theorem low25 : lowFn Tryd.prog 25 = some F25 := by kernel_rfl
theorem low26 : lowFn Tryd.prog 26 = some F26 := by kernel_rfl
theorem low27 : lowFn Tryd.prog 27 = some F27 := by kernel_rfl
theorem low28 : lowFn Tryd.prog 28 = some F28 := by kernel_rfl
theorem low29 : lowFn Tryd.prog 29 = some F29 := by kernel_rfl
theorem low30 : lowFn Tryd.prog 30 = some F30 := by kernel_rfl
theorem low31 : lowFn Tryd.prog 31 = some F31 := by kernel_rfl
theorem low32 : lowFn Tryd.prog 32 = some F32 := by kernel_rfl
theorem low33 : lowFn Tryd.prog 33 = some F33 := by kernel_rfl
theorem low34 : lowFn Tryd.prog 34 = some F34 := by kernel_rfl
theorem low35 : lowFn Tryd.prog 35 = some F35 := by kernel_rfl
theorem low36 : lowFn Tryd.prog 36 = some F36 := by kernel_rfl
theorem low37 : lowFn Tryd.prog 37 = some F37 := by kernel_rfl
theorem low38 : lowFn Tryd.prog 38 = some F38 := by kernel_rfl
theorem low39 : lowFn Tryd.prog 39 = some F39 := by kernel_rfl
theorem low40 : lowFn Tryd.prog 40 = some F40 := by kernel_rfl
theorem low41 : lowFn Tryd.prog 41 = some F41 := by kernel_rfl
theorem low42 : lowFn Tryd.prog 42 = some F42 := by kernel_rfl
theorem low43 : lowFn Tryd.prog 43 = some F43 := by kernel_rfl
theorem low44 : lowFn Tryd.prog 44 = some F44 := by kernel_rfl
theorem low45 : lowFn Tryd.prog 45 = some F45 := by kernel_rfl
theorem low46 : lowFn Tryd.prog 46 = some F46 := by kernel_rfl
theorem low47 : lowFn Tryd.prog 47 = some F47 := by kernel_rfl
theorem low48 : lowFn Tryd.prog 48 = some F48 := by kernel_rfl
theorem low49 : lowFn Tryd.prog 49 = some F49 := by kernel_rfl
theorem low50 : lowFn Tryd.prog 50 = some F50 := by kernel_rfl
theorem low51 : lowFn Tryd.prog 51 = some F51 := by kernel_rfl
theorem low52 : lowFn Tryd.prog 52 = some F52 := by kernel_rfl
theorem low53 : lowFn Tryd.prog 53 = some F53 := by kernel_rfl
theorem low54 : lowFn Tryd.prog 54 = some F54 := by kernel_rfl
theorem low55 : lowFn Tryd.prog 55 = some F55 := by kernel_rfl
theorem low56 : lowFn Tryd.prog 56 = some F56 := by kernel_rfl
theorem low57 : lowFn Tryd.prog 57 = some F57 := by kernel_rfl
theorem low58 : lowFn Tryd.prog 58 = some F58 := by kernel_rfl
theorem low59 : lowFn Tryd.prog 59 = some F59 := by kernel_rfl
theorem low60 : lowFn Tryd.prog 60 = some F60 := by kernel_rfl
theorem low61 : lowFn Tryd.prog 61 = some F61 := by kernel_rfl
theorem low62 : lowFn Tryd.prog 62 = some F62 := by kernel_rfl
theorem low63 : lowFn Tryd.prog 63 = some F63 := by kernel_rfl
theorem low64 : lowFn Tryd.prog 64 = some F64 := by kernel_rfl
theorem low65 : lowFn Tryd.prog 65 = some F65 := by kernel_rfl
theorem low66 : lowFn Tryd.prog 66 = some F66 := by kernel_rfl
theorem low67 : lowFn Tryd.prog 67 = some F67 := by kernel_rfl
theorem low68 : lowFn Tryd.prog 68 = some F68 := by kernel_rfl
theorem low69 : lowFn Tryd.prog 69 = some F69 := by kernel_rfl
theorem low70 : lowFn Tryd.prog 70 = some F70 := by kernel_rfl
theorem low71 : lowFn Tryd.prog 71 = some F71 := by kernel_rfl
theorem low72 : lowFn Tryd.prog 72 = some F72 := by kernel_rfl
theorem low73 : lowFn Tryd.prog 73 = some F73 := by kernel_rfl
theorem low74 : lowFn Tryd.prog 74 = some F74 := by kernel_rfl
theorem low75 : lowFn Tryd.prog 75 = some F75 := by kernel_rfl
theorem low76 : lowFn Tryd.prog 76 = some F76 := by kernel_rfl
theorem low77 : lowFn Tryd.prog 77 = some F77 := by kernel_rfl
theorem low78 : lowFn Tryd.prog 78 = some F78 := by kernel_rfl
theorem low79 : lowFn Tryd.prog 79 = some F79 := by kernel_rfl
theorem low80 : lowFn Tryd.prog 80 = some F80 := by kernel_rfl
theorem low81 : lowFn Tryd.prog 81 = some F81 := by kernel_rfl
theorem low82 : lowFn Tryd.prog 82 = some F82 := by kernel_rfl
theorem low83 : lowFn Tryd.prog 83 = some F83 := by kernel_rfl
theorem low84 : lowFn Tryd.prog 84 = some F84 := by kernel_rfl
theorem low90 : lowFn Tryd.prog 90 = some F90 := by kernel_rfl
theorem low93 : lowFn Tryd.prog 93 = some F93 := by kernel_rfl
theorem low94 : lowFn Tryd.prog 94 = some F94 := by kernel_rfl
theorem low95 : lowFn Tryd.prog 95 = some F95 := by kernel_rfl
theorem low96 : lowFn Tryd.prog 96 = some F96 := by kernel_rfl
theorem low97 : lowFn Tryd.prog 97 = some F97 := by kernel_rfl
theorem low98 : lowFn Tryd.prog 98 = some F98 := by kernel_rfl
theorem low99 : lowFn Tryd.prog 99 = some F99 := by kernel_rfl
theorem low100 : lowFn Tryd.prog 100 = some F100 := by kernel_rfl
theorem low101 : lowFn Tryd.prog 101 = some F101 := by kernel_rfl
theorem low107 : lowFn Tryd.prog 107 = some F107 := by kernel_rfl
theorem low108 : lowFn Tryd.prog 108 = some F108 := by kernel_rfl
theorem low126 : lowFn Tryd.prog 126 = some F126 := by kernel_rfl
theorem low127 : lowFn Tryd.prog 127 = some F127 := by kernel_rfl
theorem low128 : lowFn Tryd.prog 128 = some F128 := by kernel_rfl
theorem low129 : lowFn Tryd.prog 129 = some F129 := by kernel_rfl
theorem low130 : lowFn Tryd.prog 130 = some F130 := by kernel_rfl
theorem low131 : lowFn Tryd.prog 131 = some F131 := by kernel_rfl
theorem low132 : lowFn Tryd.prog 132 = some F132 := by kernel_rfl
theorem low133 : lowFn Tryd.prog 133 = some F133 := by kernel_rfl
theorem tab_all : ∀ p ∈ tab, lowFn Tryd.prog p.1 = some p.2 := by
  unfold tab
  intro p hp
  simp only [List.mem_cons, List.not_mem_nil, or_false] at hp
  rcases hp with rfl | rfl | rfl | rfl | rfl | rfl | rfl | rfl | rfl | rfl | rfl | rfl | rfl | rfl | rfl | rfl | rfl | rfl | rfl | rfl | rfl | rfl | rfl | rfl | rfl | rfl | rfl | rfl | rfl | rfl | rfl | rfl | rfl | rfl | rfl | rfl | rfl | rfl | rfl | rfl | rfl | rfl | rfl | rfl | rfl | rfl | rfl | rfl | rfl | rfl | rfl | rfl | rfl | rfl | rfl | rfl | rfl | rfl | rfl | rfl | rfl | rfl | rfl | rfl | rfl | rfl | rfl | rfl | rfl | rfl | rfl | rfl | rfl | rfl | rfl | rfl | rfl | rfl | rfl | rfl | rfl | rfl | rfl | rfl | rfl | rfl | rfl | rfl | rfl | rfl | rfl | rfl | rfl
  · exact low5
  · exact low9
  · exact low10
  · exact low12
  · exact low13
  · exact low14
  · exact low15
  · exact low16
  · exact low17
  · exact low18
  · exact low21
  · exact low22
  · exact low23
  · exact low25
  · exact low26
  · exact low27
  · exact low28
  · exact low29
  · exact low30
  · exact low31
  · exact low32
  · exact low33
  · exact low34
  · exact low35
  · exact low36
  · exact low37
  · exact low38
  · exact low39
  · exact low40
  · exact low41
  · exact low42
  · exact low43
  · exact low44
  · exact low45
  · exact low46
  · exact low47
  · exact low48
  · exact low49
  · exact low50
  · exact low51
  · exact low52
  · exact low53
  · exact low54
  · exact low55
  · exact low56
  · exact low57
  · exact low58
  · exact low59
  · exact low60
  · exact low61
  · exact low62
  · exact low63
  · exact low64
  · exact low65
  · exact low66
  · exact low67
  · exact low68
  · exact low69
  · exact low70
  · exact low71
  · exact low72
  · exact low73
  · exact low74
  · exact low75
  · exact low76
  · exact low77
  · exact low78
  · exact low79
  · exact low80
  · exact low81
  · exact low82
  · exact low83
  · exact low84
  · exact low90
  · exact low93
  · exact low94
  · exact low95
  · exact low96
  · exact low97
  · exact low98
  · exact low99
  · exact low100
  · exact low101
  · exact low107
  · exact low108
  · exact low126
  · exact low127
  · exact low128
  · exact low129
  · exact low130
  · exact low131
  · exact low132
  · exact low133
theorem look_mem : ∀ (l : List (Nat × AFn)) (f : Nat) (A : AFn), lookF l f = some A → (f, A) ∈ l
  | [], f, A, h => by cases h
  | (k, F) :: r, f, A, h => by
    unfold lookF at h
    split at h
    · rename_i hk
      cases h
      rw [Nat.eq_of_beq_eq_true hk]; exact List.mem_cons_self
    · exact List.mem_cons_of_mem _ (look_mem r f A h)
theorem lowG (f : Nat) (A : AFn) (h : G f = some A) : lowFn Tryd.prog f = some A := tab_all (f, A) (look_mem tab f A h)
end Go.RS.DC

