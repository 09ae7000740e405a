/- Texts of the proof. -/
import Derived.Test.YtcbkaiakncbcbaaDoorProg
import Derived.KernelRfl
import Derived.Test.YtcbkaiakncbcbaaDoorDC
set_option linter.all false
namespace Go.RS.DC
open Go Go.RS Go.Proofs
set_option maxRecDepth 100000
theorem low10 : lowFn Tryd.prog 10 = some F10 := by kernel_rfl
theorem low14 : lowFn Tryd.prog 14 = some F14 := by kernel_rfl
theorem low16 : lowFn Tryd.prog 16 = some F16 := by kernel_rfl
theorem low17 : lowFn Tryd.prog 17 = some F17 := by kernel_rfl
theorem low19 : lowFn Tryd.prog 19 = some F19 := by kernel_rfl
theorem low21 : lowFn Tryd.prog 21 = some F21 := by kernel_rfl
theorem low23 : lowFn Tryd.prog 23 = some F23 := by kernel_rfl
theorem low24 : lowFn Tryd.prog 24 = some F24 := by kernel_rfl
theorem low26 : lowFn Tryd.prog 26 = some F26 := by kernel_rfl
theorem low28 : lowFn Tryd.prog 28 = some F28 := by kernel_rfl
theorem low30 : lowFn Tryd.prog 30 = some F30 := by kernel_rfl
theorem low32 : lowFn Tryd.prog 32 = some F32 := by kernel_rfl
theorem low33 : lowFn Tryd.prog 33 = some F33 := by kernel_rfl
theorem low36 : lowFn Tryd.prog 36 = some F36 := by kernel_rfl
theorem low42 : lowFn Tryd.prog 42 = some F42 := by kernel_rfl
theorem low43 : lowFn Tryd.prog 43 = some F43 := by kernel_rfl
theorem low45 : lowFn Tryd.prog 45 = some F45 := by kernel_rfl
theorem low46 : lowFn Tryd.prog 46 = some F46 := by kernel_rfl
theorem low47 : lowFn Tryd.prog 47 = some F47 := by kernel_rfl
theorem low49 : lowFn Tryd.prog 49 = some F49 := by kernel_rfl
theorem low50 : lowFn Tryd.prog 50 = some F50 := by kernel_rfl
theorem low51 : lowFn Tryd.prog 51 = some F51 := by kernel_rfl
theorem low52 : lowFn Tryd.prog 52 = some F52 := by kernel_rfl
theorem low53 : lowFn Tryd.prog 53 = some F53 := by kernel_rfl
theorem low54 : lowFn Tryd.prog 54 = some F54 := by kernel_rfl
theorem low55 : lowFn Tryd.prog 55 = some F55 := by kernel_rfl
theorem low56 : lowFn Tryd.prog 56 = some F56 := by kernel_rfl
theorem low58 : lowFn Tryd.prog 58 = some F58 := by kernel_rfl
theorem low59 : lowFn Tryd.prog 59 = some F59 := by kernel_rfl
theorem low60 : lowFn Tryd.prog 60 = some F60 := by kernel_rfl
theorem low62 : lowFn Tryd.prog 62 = some F62 := by kernel_rfl
theorem low63 : lowFn Tryd.prog 63 = some F63 := by kernel_rfl
theorem low64 : lowFn Tryd.prog 64 = some F64 := by kernel_rfl
theorem low65 : lowFn Tryd.prog 65 = some F65 := by kernel_rfl
theorem low66 : lowFn Tryd.prog 66 = some F66 := by kernel_rfl
theorem low67 : lowFn Tryd.prog 67 = some F67 := by kernel_rfl
theorem low69 : lowFn Tryd.prog 69 = some F69 := by kernel_rfl
theorem low73 : lowFn Tryd.prog 73 = some F73 := by kernel_rfl
theorem low79 : lowFn Tryd.prog 79 = some F79 := by kernel_rfl
theorem low80 : lowFn Tryd.prog 80 = some F80 := by kernel_rfl
theorem low81 : lowFn Tryd.prog 81 = some F81 := by kernel_rfl
theorem low82 : lowFn Tryd.prog 82 = some F82 := by kernel_rfl
theorem low83 : lowFn Tryd.prog 83 = some F83 := by kernel_rfl
theorem low84 : lowFn Tryd.prog 84 = some F84 := by kernel_rfl
theorem low85 : lowFn Tryd.prog 85 = some F85 := by kernel_rfl
theorem low86 : lowFn Tryd.prog 86 = some F86 := by kernel_rfl
theorem low87 : lowFn Tryd.prog 87 = some F87 := by kernel_rfl
theorem low88 : lowFn Tryd.prog 88 = some F88 := by kernel_rfl
theorem low89 : lowFn Tryd.prog 89 = some F89 := by kernel_rfl
theorem low90 : lowFn Tryd.prog 90 = some F90 := by kernel_rfl
theorem low91 : lowFn Tryd.prog 91 = some F91 := by kernel_rfl
theorem low92 : lowFn Tryd.prog 92 = some F92 := by kernel_rfl
theorem low93 : lowFn Tryd.prog 93 = some F93 := by kernel_rfl
theorem low94 : lowFn Tryd.prog 94 = some F94 := by kernel_rfl
theorem low100 : lowFn Tryd.prog 100 = some F100 := by kernel_rfl
theorem low101 : lowFn Tryd.prog 101 = some F101 := by kernel_rfl
theorem low102 : lowFn Tryd.prog 102 = some F102 := by kernel_rfl
theorem low103 : lowFn Tryd.prog 103 = some F103 := by kernel_rfl
theorem low104 : lowFn Tryd.prog 104 = some F104 := by kernel_rfl
theorem low105 : lowFn Tryd.prog 105 = some F105 := by kernel_rfl
theorem low106 : lowFn Tryd.prog 106 = some F106 := by kernel_rfl
theorem low107 : lowFn Tryd.prog 107 = some F107 := by kernel_rfl
theorem low108 : lowFn Tryd.prog 108 = some F108 := by kernel_rfl
theorem low109 : lowFn Tryd.prog 109 = some F109 := by kernel_rfl
theorem low110 : lowFn Tryd.prog 110 = some F110 := by kernel_rfl
theorem low111 : lowFn Tryd.prog 111 = some F111 := by kernel_rfl
theorem low112 : lowFn Tryd.prog 112 = some F112 := by kernel_rfl
theorem low113 : lowFn Tryd.prog 113 = some F113 := by kernel_rfl
theorem low116 : lowFn Tryd.prog 116 = some F116 := by kernel_rfl
theorem low117 : lowFn Tryd.prog 117 = some F117 := by kernel_rfl
theorem low118 : lowFn Tryd.prog 118 = some F118 := by kernel_rfl
theorem low120 : lowFn Tryd.prog 120 = some F120 := by kernel_rfl
theorem low137 : lowFn Tryd.prog 137 = some F137 := by kernel_rfl
theorem low139 : lowFn Tryd.prog 139 = some F139 := by kernel_rfl
theorem low140 : lowFn Tryd.prog 140 = some F140 := by kernel_rfl
theorem low141 : lowFn Tryd.prog 141 = some F141 := by kernel_rfl
theorem low142 : lowFn Tryd.prog 142 = some F142 := by kernel_rfl
theorem tab_all : ∀ p ∈ tab, lowFn Tryd.prog p.1 = some p.2 := by
  unfold tab
  intro p hp
  simp only [List.mem_cons, List.not_mem_nil, or_false] at hp
  rcases hp with rfl | rfl | rfl | rfl | rfl | rfl | rfl | rfl | rfl | rfl | rfl | rfl | rfl | rfl | rfl | rfl | rfl | rfl | rfl | rfl | rfl | rfl | rfl | rfl | rfl | rfl | rfl | rfl | rfl | rfl | rfl | rfl | rfl | rfl | rfl | rfl | rfl | rfl | rfl | rfl | rfl | rfl | rfl | rfl | rfl | rfl | rfl | rfl | rfl | rfl | rfl | rfl | rfl | rfl | rfl | rfl | rfl | rfl | rfl | rfl | rfl | rfl | rfl | rfl | rfl | rfl | rfl | rfl | rfl | rfl | rfl | rfl | rfl | rfl | rfl | rfl | rfl
  · exact low10
  · exact low14
  · exact low16
  · exact low17
  · exact low19
  · exact low21
  · exact low23
  · exact low24
  · exact low26
  · exact low28
  · exact low30
  · exact low32
  · exact low33
  · exact low36
  · exact low42
  · exact low43
  · exact low45
  · exact low46
  · exact low47
  · exact low49
  · exact low50
  · exact low51
  · exact low52
  · exact low53
  · exact low54
  · exact low55
  · exact low56
  · exact low58
  · exact low59
  · exact low60
  · exact low62
  · exact low63
  · exact low64
  · exact low65
  · exact low66
  · exact low67
  · exact low69
  · exact low73
  · exact low79
  · exact low80
  · exact low81
  · exact low82
  · exact low83
  · exact low84
  · exact low85
  · exact low86
  · exact low87
  · exact low88
  · exact low89
  · exact low90
  · exact low91
  · exact low92
  · exact low93
  · exact low94
  · exact low100
  · exact low101
  · exact low102
  · exact low103
  · exact low104
  · exact low105
  · exact low106
  · exact low107
  · exact low108
  · exact low109
  · exact low110
  · exact low111
  · exact low112
  · exact low113
  · exact low116
  · exact low117
  · exact low118
  · exact low120
  · exact low137
  · exact low139
  · exact low140
  · exact low141
  · exact low142
theorem look_mem : ∀ (l : List (Nat × AFn)) (f : Nat) (A : AFn), lookF l f = some A → (f, A) ∈ l
  | [], f, A, h => by cases h
  | (k, F) :: r, f, A, h => by
    unfold lookF at h
    split at h
    · rename_i hk
      cases h
      rw [Nat.eq_of_beq_eq_true hk]; exact List.mem_cons_self
    · exact List.mem_cons_of_mem _ (look_mem r f A h)
theorem lowG (f : Nat) (A : AFn) (h : G f = some A) : lowFn Tryd.prog f = some A := tab_all (f, A) (look_mem tab f A h)
end Go.RS.DC

