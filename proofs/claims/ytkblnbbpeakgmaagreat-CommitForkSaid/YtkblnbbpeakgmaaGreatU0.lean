/- Functions of this seat's program as trees, printed by a program of ours, and that they are the functions' own. No statement of the seat is proved in this file. -/
import Derived.Test.YtkblnbbpeakgmaaGreatT
set_option linter.all false
namespace Go.Lb
open Go.Proofs

/-- lockbox/lockboxlaw23.CommitEnds -/
def t3 (a0 a1 a2 : Value) : Tr :=
 .pu (.bin .lss a2 (.int .i64 0)) fun x0 =>
 .ite x0
 (.ret (.bool true))
 (.pu (.bin .gtr a2 (.int .i64 120)) fun x1 =>
 .ite x1
 (.ret (.bool true))
 (.call 28 [(.int .i64 4), (.int .u64 9), (.bool true)] fun x2 =>
 .pu (.ext x2 0) fun x3 =>
 .pu (.ext x2 1) fun x4 =>
 .pu (.eqn .ptr false x3 (.pointer none)) fun x5 =>
 .ite x5
 (.ret (.bool false))
 (.call 29 [(.int .u64 0)] fun x6 =>
 .pu (.ext x6 0) fun x7 =>
 .pu (.ext x6 1) fun x8 =>
 .loop 0 [(.int .i64 0)] (fun u9 j10 =>
 .pu (.bin .lss (sl u9 0) a2) fun x11 =>
 .ite x11
 (.call 31 [(.int .i64 4), a0, a1] fun x12 =>
 .call 30 [x3, x7, x12] fun x13 =>
 .pu (.bin .eql x13 (.int .i64 0)) fun x14 =>
 .pu (.bin .lss (sl u9 0) (.int .i64 100)) fun x15 =>
 .pu (.eqb true x14 x15) fun x16 =>
 .ite x16
 (.ret (.bool false))
 (.pu (.bin .neq x13 (.int .i64 0)) fun x17 =>
 .ite x17
 (.pu (.bin .neq x13 (.int .i64 6)) fun x18 =>
 .ite x18
 (.ret (.bool false))
 (.pu (.bin .add (sl u9 0) (.int .i64 1)) fun x19 =>
 .fin 0 [x19]))
 (.pu (.bin .add (sl u9 0) (.int .i64 1)) fun x20 =>
 .fin 0 [x20])))
 (.fin 1 [(sl u9 0)])) fun u21 j22 =>
 .call 32 [x3] fun x23 =>
 .pu (.ext x23 0) fun x24 =>
 .pu (.ext x23 1) fun x25 =>
 .call 31 [(.int .i64 4), a0, a1] fun x26 =>
 .pu (.bin .eql a2 (.int .i64 0)) fun x27 =>
 .ite x27
 (.al (.mks 92 8 56 [(.int .i64 0), (.bool false), (.int .i64 0), (.int .u32 0), (.int .u32 0), (.int .u64 0), (.int .u64 0), (.int .u64 0)] (.int .i64 4) (.int .i64 4)) fun x28 =>
 .pu (.bin .eql x25 (.int .i64 0)) fun x29 =>
 .ite x29
 (.call 33 [x24, x28] fun x30 =>
 .ite x30
 (.pu (.nck x3) fun x31 =>
 .pu (.fad 4 x31) fun x32 =>
 .rd (.ld false 1 x32) fun x33 =>
 .call 34 [x33] fun x34 =>
 .pu (.mn a2 (.int .i64 100)) fun x35 =>
 .pu (.cvi .u64 x35) fun x36 =>
 .pu (.bin .eql x34 x36) fun x37 =>
 .ite x37
 (.call 35 [] fun x38 =>
 .ret x38)
 (.ret (.bool false)))
 (.ret (.bool false)))
 (.ret (.bool false)))
 (.pu (.bin .eql x25 (.int .i64 0)) fun x39 =>
 .ite x39
 (.call 33 [x24, x26] fun x40 =>
 .ite x40
 (.pu (.nck x3) fun x41 =>
 .pu (.fad 4 x41) fun x42 =>
 .rd (.ld false 1 x42) fun x43 =>
 .call 34 [x43] fun x44 =>
 .pu (.mn a2 (.int .i64 100)) fun x45 =>
 .pu (.cvi .u64 x45) fun x46 =>
 .pu (.bin .eql x44 x46) fun x47 =>
 .ite x47
 (.call 35 [] fun x48 =>
 .ret x48)
 (.ret (.bool false)))
 (.ret (.bool false)))
 (.ret (.bool false))))))
theorem d3 : ∀ (a0 a1 a2 : Value) , denF en [(0, [11])] Tryz.f3 [a0, a1, a2] = t3 a0 a1 a2 := by intros; kernel_rfl
theorem c3 {ro : HP} {S : List Asrt} {Q : Value → List Asrt → Prop} (a0 a1 a2 : Value) (h : WT Tryz.prog en.hb (t3 a0 a1 a2) false ro S Q fun _ _ _ => False) : Tri Tryz.prog ro 3 ⟨[a0, a1, a2]⟩ S Q :=
 tri_of_tree en_ok en_mixed Tryz.func3 (by rw [d3]; exact h)

/-- lockbox/lockboxlaw23.CommitCrash -/
def t4 (a0 a1 a2 a3 a4 a5 : Value) : Tr :=
 .pu (.bin .lss a4 (.int .i64 0)) fun x0 =>
 .ite x0
 (.ret (.bool true))
 (.pu (.bin .gtr a4 (.int .i64 8)) fun x1 =>
 .ite x1
 (.ret (.bool true))
 (.pu (.len a5) fun x2 =>
 .pu (.bin .gtr x2 (.int .i64 20)) fun x3 =>
 .ite x3
 (.ret (.bool true))
 (.call 28 [(.int .i64 4), (.int .u64 9), a0] fun x4 =>
 .pu (.ext x4 0) fun x5 =>
 .pu (.ext x4 1) fun x6 =>
 .pu (.eqn .ptr false x5 (.pointer none)) fun x7 =>
 .ite x7
 (.ret (.bool false))
 (.call 29 [(.int .u64 0)] fun x8 =>
 .pu (.ext x8 0) fun x9 =>
 .pu (.ext x8 1) fun x10 =>
 .call 31 [(.int .i64 4), a1, a3] fun x11 =>
 .call 30 [x5, x9, x11] fun x12 =>
 .pu (.bin .neq x12 (.int .i64 0)) fun x13 =>
 .ite x13
 (.ret (.bool false))
 (.pu (.nck x5) fun x14 =>
 .pu (.fad 1 x14) fun x15 =>
 .rd (.ld false 1 x15) fun x16 =>
 .call 36 [x16, a4] fun x17 =>
 .call 31 [(.int .i64 4), a2, a3] fun x18 =>
 .call 30 [x5, x9, x18] fun x19 =>
 .call 37 [x5, a5] fun x20 =>
 .call 32 [x5] fun x21 =>
 .pu (.ext x21 0) fun x22 =>
 .pu (.ext x21 1) fun x23 =>
 .call 31 [(.int .i64 4), a1, a3] fun x24 =>
 .pu (.bin .geq a4 (.int .i64 6)) fun x25 =>
 .ite x25
 (.call 31 [(.int .i64 4), a2, a3] fun x26 =>
 .pu (.bin .eql x19 (.int .i64 0)) fun x27 =>
 .pu (.bin .geq a4 (.int .i64 6)) fun x28 =>
 .pu (.eqb false x27 x28) fun x29 =>
 .ite x29
 (.pu (.bin .eql x19 (.int .i64 0)) fun x30 =>
 .ite x30
 (.pu (.bin .eql x23 (.int .i64 0)) fun x31 =>
 .ite x31
 (.call 33 [x22, x26] fun x32 =>
 .ite x32
 (.pu (.nck x5) fun x33 =>
 .pu (.fad 4 x33) fun x34 =>
 .rd (.ld false 1 x34) fun x35 =>
 .call 34 [x35] fun x36 =>
 .pu (.bin .quo a4 (.int .i64 6)) fun x37 =>
 .pu (.bin .add (.int .i64 1) x37) fun x38 =>
 .pu (.cvi .u64 x38) fun x39 =>
 .pu (.bin .eql x36 x39) fun x40 =>
 .ite x40
 (.call 35 [] fun x41 =>
 .ret x41)
 (.ret (.bool false)))
 (.ret (.bool false)))
 (.ret (.bool false)))
 (.pu (.bin .eql x19 (.int .i64 7)) fun x42 =>
 .ite x42
 (.pu (.bin .eql x23 (.int .i64 0)) fun x43 =>
 .ite x43
 (.call 33 [x22, x26] fun x44 =>
 .ite x44
 (.pu (.nck x5) fun x45 =>
 .pu (.fad 4 x45) fun x46 =>
 .rd (.ld false 1 x46) fun x47 =>
 .call 34 [x47] fun x48 =>
 .pu (.bin .quo a4 (.int .i64 6)) fun x49 =>
 .pu (.bin .add (.int .i64 1) x49) fun x50 =>
 .pu (.cvi .u64 x50) fun x51 =>
 .pu (.bin .eql x48 x51) fun x52 =>
 .ite x52
 (.call 35 [] fun x53 =>
 .ret x53)
 (.ret (.bool false)))
 (.ret (.bool false)))
 (.ret (.bool false)))
 (.ret (.bool false))))
 (.ret (.bool false)))
 (.pu (.bin .eql x19 (.int .i64 0)) fun x54 =>
 .pu (.bin .geq a4 (.int .i64 6)) fun x55 =>
 .pu (.eqb false x54 x55) fun x56 =>
 .ite x56
 (.pu (.bin .eql x19 (.int .i64 0)) fun x57 =>
 .ite x57
 (.pu (.bin .eql x23 (.int .i64 0)) fun x58 =>
 .ite x58
 (.call 33 [x22, x24] fun x59 =>
 .ite x59
 (.pu (.nck x5) fun x60 =>
 .pu (.fad 4 x60) fun x61 =>
 .rd (.ld false 1 x61) fun x62 =>
 .call 34 [x62] fun x63 =>
 .pu (.bin .quo a4 (.int .i64 6)) fun x64 =>
 .pu (.bin .add (.int .i64 1) x64) fun x65 =>
 .pu (.cvi .u64 x65) fun x66 =>
 .pu (.bin .eql x63 x66) fun x67 =>
 .ite x67
 (.call 35 [] fun x68 =>
 .ret x68)
 (.ret (.bool false)))
 (.ret (.bool false)))
 (.ret (.bool false)))
 (.pu (.bin .eql x19 (.int .i64 7)) fun x69 =>
 .ite x69
 (.pu (.bin .eql x23 (.int .i64 0)) fun x70 =>
 .ite x70
 (.call 33 [x22, x24] fun x71 =>
 .ite x71
 (.pu (.nck x5) fun x72 =>
 .pu (.fad 4 x72) fun x73 =>
 .rd (.ld false 1 x73) fun x74 =>
 .call 34 [x74] fun x75 =>
 .pu (.bin .quo a4 (.int .i64 6)) fun x76 =>
 .pu (.bin .add (.int .i64 1) x76) fun x77 =>
 .pu (.cvi .u64 x77) fun x78 =>
 .pu (.bin .eql x75 x78) fun x79 =>
 .ite x79
 (.call 35 [] fun x80 =>
 .ret x80)
 (.ret (.bool false)))
 (.ret (.bool false)))
 (.ret (.bool false)))
 (.ret (.bool false))))
 (.ret (.bool false))))))))
theorem d4 : ∀ (a0 a1 a2 a3 a4 a5 : Value) , denF en [] Tryz.f4 [a0, a1, a2, a3, a4, a5] = t4 a0 a1 a2 a3 a4 a5 := by intros; kernel_rfl
theorem c4 {ro : HP} {S : List Asrt} {Q : Value → List Asrt → Prop} (a0 a1 a2 a3 a4 a5 : Value) (h : WT Tryz.prog en.hb (t4 a0 a1 a2 a3 a4 a5) false ro S Q fun _ _ _ => False) : Tri Tryz.prog ro 4 ⟨[a0, a1, a2, a3, a4, a5]⟩ S Q :=
 tri_of_tree en_ok en_mixed Tryz.func4 (by rw [d4]; exact h)

/-- lockbox/lockboxlaw23.CommitFork -/
def t5 (a0 a1 a2 : Value) : Tr :=
 .call 28 [(.int .i64 4), (.int .u64 9), (.bool true)] fun x0 =>
 .pu (.ext x0 0) fun x1 =>
 .pu (.ext x0 1) fun x2 =>
 .pu (.eqn .ptr false x1 (.pointer none)) fun x3 =>
 .ite x3
 (.ret (.bool false))
 (.pu (.nck x1) fun x4 =>
 .pu (.fad 4 x4) fun x5 =>
 .rd (.ld false 1 x5) fun x6 =>
 .call 38 [x6] fun x7 =>
 .pu (.nck x1) fun x8 =>
 .pu (.fad 4 x8) fun x9 =>
 .rd (.ld false 1 x9) fun x10 =>
 .call 39 [x10] fun x11 =>
 .call 29 [x11] fun x12 =>
 .pu (.ext x12 0) fun x13 =>
 .pu (.ext x12 1) fun x14 =>
 .pu (.nck x1) fun x15 =>
 .pu (.fad 1 x15) fun x16 =>
 .rd (.ld false 1 x16) fun x17 =>
 .call 36 [x17, (.int .i64 5)] fun x18 =>
 .call 31 [(.int .i64 4), a0, a2] fun x19 =>
 .call 30 [x1, x13, x19] fun x20 =>
 .pu (.nck x1) fun x21 =>
 .pu (.fad 2 x21) fun x22 =>
 .rd (.ld false 1 x22) fun x23 =>
 .call 40 [x23] fun x24 =>
 .call 37 [x1, (.slice none 0 0)] fun x25 =>
 .pu (.nck x1) fun x26 =>
 .pu (.fad 4 x26) fun x27 =>
 .rd (.ld false 1 x27) fun x28 =>
 .call 38 [x28] fun x29 =>
 .pu (.nck x1) fun x30 =>
 .pu (.fad 4 x30) fun x31 =>
 .rd (.ld false 1 x31) fun x32 =>
 .call 39 [x32] fun x33 =>
 .call 29 [x33] fun x34 =>
 .pu (.ext x34 0) fun x35 =>
 .pu (.ext x34 1) fun x36 =>
 .call 31 [(.int .i64 4), a1, a2] fun x37 =>
 .call 30 [x1, x35, x37] fun x38 =>
 .call 32 [x1] fun x39 =>
 .pu (.ext x39 0) fun x40 =>
 .pu (.ext x39 1) fun x41 =>
 .pu (.nck x1) fun x42 =>
 .pu (.fad 2 x42) fun x43 =>
 .rd (.ld false 1 x43) fun x44 =>
 .call 41 [x44, x24] fun x45 =>
 .call 32 [x1] fun x46 =>
 .pu (.ext x46 0) fun x47 =>
 .pu (.ext x46 1) fun x48 =>
 .pu (.bin .eql x20 (.int .i64 7)) fun x49 =>
 .ite x49
 (.pu (.bin .eql x38 (.int .i64 0)) fun x50 =>
 .ite x50
 (.pu (.bin .eql x41 (.int .i64 0)) fun x51 =>
 .ite x51
 (.call 31 [(.int .i64 4), a1, a2] fun x52 =>
 .call 33 [x40, x52] fun x53 =>
 .ite x53
 (.pu (.bin .eql x48 (.int .i64 3)) fun x54 =>
 .ite x54
 (.call 35 [] fun x55 =>
 .ret x55)
 (.ret (.bool false)))
 (.ret (.bool false)))
 (.ret (.bool false)))
 (.ret (.bool false)))
 (.ret (.bool false)))
theorem d5 : ∀ (a0 a1 a2 : Value) , denF en [] Tryz.f5 [a0, a1, a2] = t5 a0 a1 a2 := by intros; kernel_rfl
theorem c5 {ro : HP} {S : List Asrt} {Q : Value → List Asrt → Prop} (a0 a1 a2 : Value) (h : WT Tryz.prog en.hb (t5 a0 a1 a2) false ro S Q fun _ _ _ => False) : Tri Tryz.prog ro 5 ⟨[a0, a1, a2]⟩ S Q :=
 tri_of_tree en_ok en_mixed Tryz.func5 (by rw [d5]; exact h)

/-- lockbox/lockboxlaw23.CommitFoe -/
def t6 (a0 a1 a2 a3 a4 a5 : Value) : Tr :=
 .pu (.len a0) fun x0 =>
 .pu (.bin .lss x0 (.int .i64 1)) fun x1 =>
 .ite x1
 (.ret (.bool true))
 (.pu (.len a0) fun x2 =>
 .pu (.bin .gtr x2 (.int .i64 12)) fun x3 =>
 .ite x3
 (.ret (.bool true))
 (.pu (.len a5) fun x4 =>
 .pu (.bin .gtr x4 (.int .i64 80)) fun x5 =>
 .ite x5
 (.ret (.bool true))
 (.pu (.bin .lss a2 (.int .i64 0)) fun x6 =>
 .ite x6
 (.ret (.bool true))
 (.pu (.len a0) fun x7 =>
 .pu (.bin .geq a2 x7) fun x8 =>
 .ite x8
 (.ret (.bool true))
 (.call 28 [(.int .i64 4), (.int .u64 9), (.bool true)] fun x9 =>
 .pu (.ext x9 0) fun x10 =>
 .pu (.ext x9 1) fun x11 =>
 .pu (.eqn .ptr false x10 (.pointer none)) fun x12 =>
 .ite x12
 (.ret (.bool false))
 (.al (.mks 92 8 56 [(.int .i64 0), (.bool false), (.int .i64 0), (.int .u32 0), (.int .u32 0), (.int .u64 0), (.int .u64 0), (.int .u64 0)] (.int .i64 4) (.int .i64 4)) fun x13 =>
 .loop 0 [(.slice none 0 0), x13, (.int .i64 0)] (fun u14 j15 =>
 .pu (.len a0) fun x16 =>
 .pu (.bin .lss (sl u14 2) x16) fun x17 =>
 .ite x17
 (.join 2 (.pu (.nck x10) fun x18 =>
 .pu (.fad 4 x18) fun x19 =>
 .rd (.ld false 1 x19) fun x20 =>
 .call 38 [x20] fun x21 =>
 .pu (.nck x10) fun x22 =>
 .pu (.fad 4 x22) fun x23 =>
 .rd (.ld false 1 x23) fun x24 =>
 .call 39 [x24] fun x25 =>
 .call 29 [x25] fun x26 =>
 .pu (.ext x26 0) fun x27 =>
 .pu (.ext x26 1) fun x28 =>
 .pu (.len a3) fun x29 =>
 .pu (.bin .lss (sl u14 2) x29) fun x30 =>
 .ite x30
 (.pu (.iad 1 a3 (sl u14 2)) fun x31 =>
 .rd (.ld false 1 x31) fun x32 =>
 .pu (.nck x10) fun x33 =>
 .pu (.fad 1 x33) fun x34 =>
 .rd (.ld false 1 x34) fun x35 =>
 .call 36 [x35, x32] fun x36 =>
 .pu (.nck x10) fun x37 =>
 .pu (.fad 4 x37) fun x38 =>
 .rd (.ld false 1 x38) fun x39 =>
 .call 34 [x39] fun x40 =>
 .pu (.iad 1 a0 (sl u14 2)) fun x41 =>
 .rd (.ld false 1 x41) fun x42 =>
 .call 31 [(.int .i64 4), x42, a1] fun x43 =>
 .call 30 [x10, x27, x43] fun x44 =>
 .pu (.nck x10) fun x45 =>
 .pu (.fad 4 x45) fun x46 =>
 .rd (.ld false 1 x46) fun x47 =>
 .call 34 [x47] fun x48 =>
 .pu (.bin .gtr x48 x40) fun x49 =>
 .ite x49
 (.pu (.iad 1 a0 (sl u14 2)) fun x50 =>
 .rd (.ld false 1 x50) fun x51 =>
 .call 31 [(.int .i64 4), x51, a1] fun x52 =>
 .pu (.bin .eql (sl u14 2) a2) fun x53 =>
 .ite x53
 (.pu (.nck x10) fun x54 =>
 .pu (.fad 2 x54) fun x55 =>
 .rd (.ld false 1 x55) fun x56 =>
 .call 40 [x56] fun x57 =>
 .pu (.bin .rem (sl u14 2) (.int .i64 2)) fun x58 =>
 .pu (.bin .eql x58 (.int .i64 0)) fun x59 =>
 .pu (.bin .rem (sl u14 2) (.int .i64 3)) fun x60 =>
 .pu (.bin .eql x60 (.int .i64 0)) fun x61 =>
 .al (.bsl 4 1 3 [(.bool false)] [(0, 1, x59), (1, 1, x61), (2, 1, (.bool true))]) fun x62 =>
 .call 37 [x10, x62] fun x63 =>
 .fin 2 [x57, x52])
 (.pu (.bin .rem (sl u14 2) (.int .i64 2)) fun x64 =>
 .pu (.bin .eql x64 (.int .i64 0)) fun x65 =>
 .pu (.bin .rem (sl u14 2) (.int .i64 3)) fun x66 =>
 .pu (.bin .eql x66 (.int .i64 0)) fun x67 =>
 .al (.bsl 4 1 3 [(.bool false)] [(0, 1, x65), (1, 1, x67), (2, 1, (.bool true))]) fun x68 =>
 .call 37 [x10, x68] fun x69 =>
 .fin 2 [(sl u14 0), x52]))
 (.pu (.bin .eql (sl u14 2) a2) fun x70 =>
 .ite x70
 (.pu (.nck x10) fun x71 =>
 .pu (.fad 2 x71) fun x72 =>
 .rd (.ld false 1 x72) fun x73 =>
 .call 40 [x73] fun x74 =>
 .pu (.bin .rem (sl u14 2) (.int .i64 2)) fun x75 =>
 .pu (.bin .eql x75 (.int .i64 0)) fun x76 =>
 .pu (.bin .rem (sl u14 2) (.int .i64 3)) fun x77 =>
 .pu (.bin .eql x77 (.int .i64 0)) fun x78 =>
 .al (.bsl 4 1 3 [(.bool false)] [(0, 1, x76), (1, 1, x78), (2, 1, (.bool true))]) fun x79 =>
 .call 37 [x10, x79] fun x80 =>
 .fin 2 [x74, (sl u14 1)])
 (.pu (.bin .rem (sl u14 2) (.int .i64 2)) fun x81 =>
 .pu (.bin .eql x81 (.int .i64 0)) fun x82 =>
 .pu (.bin .rem (sl u14 2) (.int .i64 3)) fun x83 =>
 .pu (.bin .eql x83 (.int .i64 0)) fun x84 =>
 .al (.bsl 4 1 3 [(.bool false)] [(0, 1, x82), (1, 1, x84), (2, 1, (.bool true))]) fun x85 =>
 .call 37 [x10, x85] fun x86 =>
 .fin 2 [(sl u14 0), (sl u14 1)])))
 (.pu (.nck x10) fun x87 =>
 .pu (.fad 1 x87) fun x88 =>
 .rd (.ld false 1 x88) fun x89 =>
 .call 36 [x89, (.int .i64 (-1))] fun x90 =>
 .pu (.nck x10) fun x91 =>
 .pu (.fad 4 x91) fun x92 =>
 .rd (.ld false 1 x92) fun x93 =>
 .call 34 [x93] fun x94 =>
 .pu (.iad 1 a0 (sl u14 2)) fun x95 =>
 .rd (.ld false 1 x95) fun x96 =>
 .call 31 [(.int .i64 4), x96, a1] fun x97 =>
 .call 30 [x10, x27, x97] fun x98 =>
 .pu (.nck x10) fun x99 =>
 .pu (.fad 4 x99) fun x100 =>
 .rd (.ld false 1 x100) fun x101 =>
 .call 34 [x101] fun x102 =>
 .pu (.bin .gtr x102 x94) fun x103 =>
 .ite x103
 (.pu (.iad 1 a0 (sl u14 2)) fun x104 =>
 .rd (.ld false 1 x104) fun x105 =>
 .call 31 [(.int .i64 4), x105, a1] fun x106 =>
 .pu (.bin .eql (sl u14 2) a2) fun x107 =>
 .ite x107
 (.pu (.nck x10) fun x108 =>
 .pu (.fad 2 x108) fun x109 =>
 .rd (.ld false 1 x109) fun x110 =>
 .call 40 [x110] fun x111 =>
 .pu (.bin .rem (sl u14 2) (.int .i64 2)) fun x112 =>
 .pu (.bin .eql x112 (.int .i64 0)) fun x113 =>
 .pu (.bin .rem (sl u14 2) (.int .i64 3)) fun x114 =>
 .pu (.bin .eql x114 (.int .i64 0)) fun x115 =>
 .al (.bsl 4 1 3 [(.bool false)] [(0, 1, x113), (1, 1, x115), (2, 1, (.bool true))]) fun x116 =>
 .call 37 [x10, x116] fun x117 =>
 .fin 2 [x111, x106])
 (.pu (.bin .rem (sl u14 2) (.int .i64 2)) fun x118 =>
 .pu (.bin .eql x118 (.int .i64 0)) fun x119 =>
 .pu (.bin .rem (sl u14 2) (.int .i64 3)) fun x120 =>
 .pu (.bin .eql x120 (.int .i64 0)) fun x121 =>
 .al (.bsl 4 1 3 [(.bool false)] [(0, 1, x119), (1, 1, x121), (2, 1, (.bool true))]) fun x122 =>
 .call 37 [x10, x122] fun x123 =>
 .fin 2 [(sl u14 0), x106]))
 (.pu (.bin .eql (sl u14 2) a2) fun x124 =>
 .ite x124
 (.pu (.nck x10) fun x125 =>
 .pu (.fad 2 x125) fun x126 =>
 .rd (.ld false 1 x126) fun x127 =>
 .call 40 [x127] fun x128 =>
 .pu (.bin .rem (sl u14 2) (.int .i64 2)) fun x129 =>
 .pu (.bin .eql x129 (.int .i64 0)) fun x130 =>
 .pu (.bin .rem (sl u14 2) (.int .i64 3)) fun x131 =>
 .pu (.bin .eql x131 (.int .i64 0)) fun x132 =>
 .al (.bsl 4 1 3 [(.bool false)] [(0, 1, x130), (1, 1, x132), (2, 1, (.bool true))]) fun x133 =>
 .call 37 [x10, x133] fun x134 =>
 .fin 2 [x128, (sl u14 1)])
 (.pu (.bin .rem (sl u14 2) (.int .i64 2)) fun x135 =>
 .pu (.bin .eql x135 (.int .i64 0)) fun x136 =>
 .pu (.bin .rem (sl u14 2) (.int .i64 3)) fun x137 =>
 .pu (.bin .eql x137 (.int .i64 0)) fun x138 =>
 .al (.bsl 4 1 3 [(.bool false)] [(0, 1, x136), (1, 1, x138), (2, 1, (.bool true))]) fun x139 =>
 .call 37 [x10, x139] fun x140 =>
 .fin 2 [(sl u14 0), (sl u14 1)])))) fun u141 j142 =>
 .pu (.bin .add (sl u14 2) (.int .i64 1)) fun x143 =>
 .fin 0 [(sl u141 0), (sl u141 1), x143])
 (.fin 1 [(sl u14 0), (sl u14 1), (sl u14 2)])) fun u144 j145 =>
 .call 32 [x10] fun x146 =>
 .pu (.ext x146 0) fun x147 =>
 .pu (.ext x146 1) fun x148 =>
 .pu (.bin .neq x148 (.int .i64 0)) fun x149 =>
 .ite x149
 (.ret (.bool false))
 (.call 33 [x147, (sl u144 1)] fun x150 =>
 .pu (.un .not x150) fun x151 =>
 .ite x151
 (.ret (.bool false))
 (.pu (.nck x10) fun x152 =>
 .pu (.fad 2 x152) fun x153 =>
 .rd (.ld false 1 x153) fun x154 =>
 .call 41 [x154, (sl u144 0)] fun x155 =>
 .pu (.nck x10) fun x156 =>
 .pu (.fad 2 x156) fun x157 =>
 .rd (.ld false 1 x157) fun x158 =>
 .call 42 [x158, a4, a5] fun x159 =>
 .call 32 [x10] fun x160 =>
 .pu (.ext x160 0) fun x161 =>
 .pu (.ext x160 1) fun x162 =>
 .pu (.bin .eql x162 (.int .i64 0)) fun x163 =>
 .ite x163
 (.call 33 [x161, (sl u144 1)] fun x164 =>
 .ite x164
 (.call 35 [] fun x165 =>
 .ret x165)
 (.pu (.bin .eql x162 (.int .i64 3)) fun x166 =>
 .ite x166
 (.pu (.len x161) fun x167 =>
 .pu (.bin .eql x167 (.int .i64 0)) fun x168 =>
 .ite x168
 (.call 35 [] fun x169 =>
 .ret x169)
 (.ret (.bool false)))
 (.ret (.bool false))))
 (.pu (.bin .eql x162 (.int .i64 3)) fun x170 =>
 .ite x170
 (.pu (.len x161) fun x171 =>
 .pu (.bin .eql x171 (.int .i64 0)) fun x172 =>
 .ite x172
 (.call 35 [] fun x173 =>
 .ret x173)
 (.ret (.bool false)))
 (.ret (.bool false)))))))))))
theorem d6 : ∀ (a0 a1 a2 a3 a4 a5 : Value) , denF en [(1, [15, 16]), (0, [15, 16, 17])] Tryz.f6 [a0, a1, a2, a3, a4, a5] = t6 a0 a1 a2 a3 a4 a5 := by intros; kernel_rfl
theorem c6 {ro : HP} {S : List Asrt} {Q : Value → List Asrt → Prop} (a0 a1 a2 a3 a4 a5 : Value) (h : WT Tryz.prog en.hb (t6 a0 a1 a2 a3 a4 a5) false ro S Q fun _ _ _ => False) : Tri Tryz.prog ro 6 ⟨[a0, a1, a2, a3, a4, a5]⟩ S Q :=
 tri_of_tree en_ok en_mixed Tryz.func6 (by rw [d6]; exact h)

/-- lockbox/lockboxlaw30.AuditTraces -/
def t7 (a0 a1 a2 : Value) : Tr :=
 .pu (.len a0) fun x0 =>
 .pu (.bin .gtr x0 (.int .i64 50)) fun x1 =>
 .ite x1
 (.ret (.bool true))
 (.pu (.len a1) fun x2 =>
 .pu (.bin .gtr x2 (.int .i64 50)) fun x3 =>
 .ite x3
 (.ret (.bool true))
 (.call 43 [a0, a1, a2] fun x4 =>
 .call 44 [a0, a1, a2] fun x5 =>
 .pu (.eqb false x4 x5) fun x6 =>
 .ite x6
 (.call 43 [a0, a0, a2] fun x7 =>
 .ite x7
 (.call 45 [] fun x8 =>
 .ret x8)
 (.ret (.bool false)))
 (.ret (.bool false))))
theorem d7 : ∀ (a0 a1 a2 : Value) , denF en [] Tryz.f7 [a0, a1, a2] = t7 a0 a1 a2 := by intros; kernel_rfl
theorem c7 {ro : HP} {S : List Asrt} {Q : Value → List Asrt → Prop} (a0 a1 a2 : Value) (h : WT Tryz.prog en.hb (t7 a0 a1 a2) false ro S Q fun _ _ _ => False) : Tri Tryz.prog ro 7 ⟨[a0, a1, a2]⟩ S Q :=
 tri_of_tree en_ok en_mixed Tryz.func7 (by rw [d7]; exact h)

/-- lockbox/lockboxlaw28.CacheModel -/
def t8 (a0 a1 a2 : Value) : Tr :=
 .pu (.bin .lss a0 (.int .i64 2)) fun x0 =>
 .ite x0
 (.ret (.bool true))
 (.pu (.bin .gtr a0 (.int .i64 4)) fun x1 =>
 .ite x1
 (.ret (.bool true))
 (.call 46 [a2] fun x2 =>
 .ite x2
 (.ret (.bool true))
 (.pu (.cvi .u64 a0) fun x3 =>
 .pu (.bin .shl (.int .i64 1) x3) fun x4 =>
 .call 28 [x4, (.int .u64 3), a1] fun x5 =>
 .pu (.ext x5 0) fun x6 =>
 .pu (.ext x5 1) fun x7 =>
 .call 47 [x6] fun x8 =>
 .pu (.ext x8 0) fun x9 =>
 .pu (.ext x8 1) fun x10 =>
 .pu (.bin .neq x10 (.int .i64 0)) fun x11 =>
 .ite x11
 (.ret (.bool false))
 (.pu (.eqn .ptr false x9 (.pointer none)) fun x12 =>
 .ite x12
 (.ret (.bool false))
 (.call 48 [] fun x13 =>
 .loop 0 [(.int .i64 0)] (fun u14 j15 =>
 .pu (.len a2) fun x16 =>
 .pu (.bin .lss (sl u14 0) x16) fun x17 =>
 .ite x17
 (.pu (.iad 3 a2 (sl u14 0)) fun x18 =>
 .rd (.ld true 3 x18) fun x19 =>
 .call 49 [x9, x19] fun x20 =>
 .al (.nw 73 [(.int .i64 0), (.slice none 0 0)]) fun x21 =>
 .hv (.st 2 x21 x20) fun x22 =>
 .pu (.fad 0 x21) fun x23 =>
 .rd (.ld false 1 x23) fun x24 =>
 .pu (.bin .eql x24 (.int .i64 6)) fun x25 =>
 .ite x25
 (.call 50 [] fun x26 =>
 .ret x26)
 (.draw 2 (.rd (.ld true 2 x21) fun x27 =>
 .pu (.iad 3 a2 (sl u14 0)) fun x28 =>
 .rd (.ld true 3 x28) fun x29 =>
 .call 52 [x13, x29] fun x30 =>
 .call 51 [x27, x30] fun x31 =>
 .pu (.un .not x31) fun x32 =>
 .fin 2 [x32]) fun u33 j34 =>
 .ite (sl u33 0)
 (.ret (.bool false))
 (.pu (.bin .add (sl u14 0) (.int .i64 1)) fun x35 =>
 .fin 0 [x35])))
 (.fin 1 [(sl u14 0)])) fun u36 j37 =>
 .call 50 [] fun x38 =>
 .ret x38)))))
theorem d8 : ∀ (a0 a1 a2 : Value) , denF en [(2014, [68]), (0, [12])] Tryz.f8 [a0, a1, a2] = t8 a0 a1 a2 := by intros; kernel_rfl
theorem c8 {ro : HP} {S : List Asrt} {Q : Value → List Asrt → Prop} (a0 a1 a2 : Value) (h : WT Tryz.prog en.hb (t8 a0 a1 a2) false ro S Q fun _ _ _ => False) : Tri Tryz.prog ro 8 ⟨[a0, a1, a2]⟩ S Q :=
 tri_of_tree en_ok en_mixed Tryz.func8 (by rw [d8]; exact h)

/-- lockbox/lockboxlaw28.CacheFull -/
def t13 (a0 a1 a2 : Value) : Tr :=
 .pu (.bin .lss a0 (.int .i64 2)) fun x0 =>
 .ite x0
 (.ret (.bool true))
 (.pu (.bin .gtr a0 (.int .i64 4)) fun x1 =>
 .ite x1
 (.ret (.bool true))
 (.pu (.bin .neq a2 (.int .i64 2)) fun x2 =>
 .ite x2
 (.pu (.bin .neq a2 (.int .i64 4)) fun x3 =>
 .ite x3
 (.ret (.bool true))
 (.pu (.cvi .u64 a0) fun x4 =>
 .pu (.bin .shl (.int .i64 1) x4) fun x5 =>
 .call 28 [x5, (.int .u64 3), (.bool true)] fun x6 =>
 .pu (.ext x6 0) fun x7 =>
 .pu (.ext x6 1) fun x8 =>
 .call 47 [x7] fun x9 =>
 .pu (.ext x9 0) fun x10 =>
 .pu (.ext x9 1) fun x11 =>
 .pu (.bin .neq x11 (.int .i64 0)) fun x12 =>
 .ite x12
 (.ret (.bool false))
 (.pu (.eqn .ptr false x10 (.pointer none)) fun x13 =>
 .ite x13
 (.ret (.bool false))
 (.pu (.nck x7) fun x14 =>
 .pu (.fad 3 x14) fun x15 =>
 .rd (.ld false 1 x15) fun x16 =>
 .call 63 [x16, (.bool true)] fun x17 =>
 .loop 0 [(.int .i64 0)] (fun u18 j19 =>
 .pu (.bin .lss (sl u18 0) x5) fun x20 =>
 .ite x20
 (.pu (.cvi .u8 (sl u18 0)) fun x21 =>
 .pu (.bin .add a1 x21) fun x22 =>
 .call 53 [x22] fun x23 =>
 .pu (.bld [(.int .i64 0), (.int .i64 0), (.slice none 0 0)] [(0, 1, (.int .i64 2)), (1, 1, (sl u18 0)), (2, 1, x23)]) fun x24 =>
 .call 49 [x10, x24] fun x25 =>
 .pu (.fld 0 1 false x25) fun x26 =>
 .pu (.bin .neq x26 (.int .i64 0)) fun x27 =>
 .ite x27
 (.ret (.bool false))
 (.pu (.bin .add (sl u18 0) (.int .i64 1)) fun x28 =>
 .fin 0 [x28]))
 (.fin 1 [(sl u18 0)])) fun u29 j30 =>
 .call 53 [(.int .u8 1)] fun x31 =>
 .pu (.bld [(.int .i64 0), (.int .i64 0), (.slice none 0 0)] [(0, 1, a2), (1, 1, x5), (2, 1, x31)]) fun x32 =>
 .al (.nw 76 [(.int .i64 0), (.int .i64 0), (.slice none 0 0)]) fun x33 =>
 .hv (.st 3 x33 x32) fun x34 =>
 .rd (.ld true 3 x33) fun x35 =>
 .call 49 [x10, x35] fun x36 =>
 .al (.nw 73 [(.int .i64 0), (.slice none 0 0)]) fun x37 =>
 .hv (.st 2 x37 x36) fun x38 =>
 .loop 0 [(.int .i64 0)] (fun u39 j40 =>
 .pu (.bin .lss (sl u39 0) x5) fun x41 =>
 .ite x41
 (.pu (.bld [(.int .i64 0), (.int .i64 0), (.slice none 0 0)] [(0, 1, (.int .i64 1)), (1, 1, (sl u39 0))]) fun x42 =>
 .call 49 [x10, x42] fun x43 =>
 .pu (.cvi .u8 (sl u39 0)) fun x44 =>
 .pu (.bin .add a1 x44) fun x45 =>
 .call 53 [x45] fun x46 =>
 .pu (.bld [(.int .i64 0), (.slice none 0 0)] [(1, 1, x46)]) fun x47 =>
 .call 51 [x43, x47] fun x48 =>
 .pu (.un .not x48) fun x49 =>
 .ite x49
 (.ret (.bool false))
 (.pu (.bin .add (sl u39 0) (.int .i64 1)) fun x50 =>
 .fin 0 [x50]))
 (.fin 1 [(sl u39 0)])) fun u51 j52 =>
 .pu (.nck x7) fun x53 =>
 .pu (.fad 3 x53) fun x54 =>
 .rd (.ld false 1 x54) fun x55 =>
 .call 63 [x55, (.bool false)] fun x56 =>
 .pu (.fad 0 x37) fun x57 =>
 .rd (.ld false 1 x57) fun x58 =>
 .pu (.bin .eql x58 (.int .i64 5)) fun x59 =>
 .ite x59
 (.rd (.ld true 3 x33) fun x60 =>
 .call 49 [x10, x60] fun x61 =>
 .pu (.fld 0 1 false x61) fun x62 =>
 .pu (.bin .eql x62 (.int .i64 0)) fun x63 =>
 .ite x63
 (.call 57 [x10] fun x64 =>
 .pu (.bin .eql x64 (.int .i64 0)) fun x65 =>
 .ite x65
 (.call 50 [] fun x66 =>
 .ret x66)
 (.ret (.bool false)))
 (.ret (.bool false)))
 (.ret (.bool false))))))
 (.pu (.cvi .u64 a0) fun x67 =>
 .pu (.bin .shl (.int .i64 1) x67) fun x68 =>
 .call 28 [x68, (.int .u64 3), (.bool true)] fun x69 =>
 .pu (.ext x69 0) fun x70 =>
 .pu (.ext x69 1) fun x71 =>
 .call 47 [x70] fun x72 =>
 .pu (.ext x72 0) fun x73 =>
 .pu (.ext x72 1) fun x74 =>
 .pu (.bin .neq x74 (.int .i64 0)) fun x75 =>
 .ite x75
 (.ret (.bool false))
 (.pu (.eqn .ptr false x73 (.pointer none)) fun x76 =>
 .ite x76
 (.ret (.bool false))
 (.pu (.nck x70) fun x77 =>
 .pu (.fad 3 x77) fun x78 =>
 .rd (.ld false 1 x78) fun x79 =>
 .call 63 [x79, (.bool true)] fun x80 =>
 .loop 0 [(.int .i64 0)] (fun u81 j82 =>
 .pu (.bin .lss (sl u81 0) x68) fun x83 =>
 .ite x83
 (.pu (.cvi .u8 (sl u81 0)) fun x84 =>
 .pu (.bin .add a1 x84) fun x85 =>
 .call 53 [x85] fun x86 =>
 .pu (.bld [(.int .i64 0), (.int .i64 0), (.slice none 0 0)] [(0, 1, (.int .i64 2)), (1, 1, (sl u81 0)), (2, 1, x86)]) fun x87 =>
 .call 49 [x73, x87] fun x88 =>
 .pu (.fld 0 1 false x88) fun x89 =>
 .pu (.bin .neq x89 (.int .i64 0)) fun x90 =>
 .ite x90
 (.ret (.bool false))
 (.pu (.bin .add (sl u81 0) (.int .i64 1)) fun x91 =>
 .fin 0 [x91]))
 (.fin 1 [(sl u81 0)])) fun u92 j93 =>
 .call 53 [(.int .u8 1)] fun x94 =>
 .pu (.bld [(.int .i64 0), (.int .i64 0), (.slice none 0 0)] [(0, 1, a2), (1, 1, x68), (2, 1, x94)]) fun x95 =>
 .al (.nw 76 [(.int .i64 0), (.int .i64 0), (.slice none 0 0)]) fun x96 =>
 .hv (.st 3 x96 x95) fun x97 =>
 .rd (.ld true 3 x96) fun x98 =>
 .call 49 [x73, x98] fun x99 =>
 .al (.nw 73 [(.int .i64 0), (.slice none 0 0)]) fun x100 =>
 .hv (.st 2 x100 x99) fun x101 =>
 .loop 0 [(.int .i64 0)] (fun u102 j103 =>
 .pu (.bin .lss (sl u102 0) x68) fun x104 =>
 .ite x104
 (.pu (.bld [(.int .i64 0), (.int .i64 0), (.slice none 0 0)] [(0, 1, (.int .i64 1)), (1, 1, (sl u102 0))]) fun x105 =>
 .call 49 [x73, x105] fun x106 =>
 .pu (.cvi .u8 (sl u102 0)) fun x107 =>
 .pu (.bin .add a1 x107) fun x108 =>
 .call 53 [x108] fun x109 =>
 .pu (.bld [(.int .i64 0), (.slice none 0 0)] [(1, 1, x109)]) fun x110 =>
 .call 51 [x106, x110] fun x111 =>
 .pu (.un .not x111) fun x112 =>
 .ite x112
 (.ret (.bool false))
 (.pu (.bin .add (sl u102 0) (.int .i64 1)) fun x113 =>
 .fin 0 [x113]))
 (.fin 1 [(sl u102 0)])) fun u114 j115 =>
 .pu (.nck x70) fun x116 =>
 .pu (.fad 3 x116) fun x117 =>
 .rd (.ld false 1 x117) fun x118 =>
 .call 63 [x118, (.bool false)] fun x119 =>
 .pu (.fad 0 x100) fun x120 =>
 .rd (.ld false 1 x120) fun x121 =>
 .pu (.bin .eql x121 (.int .i64 5)) fun x122 =>
 .ite x122
 (.rd (.ld true 3 x96) fun x123 =>
 .call 49 [x73, x123] fun x124 =>
 .pu (.fld 0 1 false x124) fun x125 =>
 .pu (.bin .eql x125 (.int .i64 0)) fun x126 =>
 .ite x126
 (.call 57 [x73] fun x127 =>
 .pu (.bin .eql x127 (.int .i64 0)) fun x128 =>
 .ite x128
 (.call 50 [] fun x129 =>
 .ret x129)
 (.ret (.bool false)))
 (.ret (.bool false)))
 (.ret (.bool false)))))))
theorem d13 : ∀ (a0 a1 a2 : Value) , denF en [(0, [12]), (2, [15])] Tryz.f13 [a0, a1, a2] = t13 a0 a1 a2 := by intros; kernel_rfl
theorem c13 {ro : HP} {S : List Asrt} {Q : Value → List Asrt → Prop} (a0 a1 a2 : Value) (h : WT Tryz.prog en.hb (t13 a0 a1 a2) false ro S Q fun _ _ _ => False) : Tri Tryz.prog ro 13 ⟨[a0, a1, a2]⟩ S Q :=
 tri_of_tree en_ok en_mixed Tryz.func13 (by rw [d13]; exact h)

/-- lockbox/lockboxlaw28.CacheArgs -/
def t14 (a0 : Value) : Tr :=
 .al (.bx 76 a0) fun x0 =>
 .rd (.ld true 3 x0) fun x1 =>
 .call 64 [x1] fun x2 =>
 .ite x2
 (.ret (.bool true))
 (.pu (.fad 2 x0) fun x3 =>
 .rd (.ld false 1 x3) fun x4 =>
 .pu (.len x4) fun x5 =>
 .pu (.bin .gtr x5 (.int .i64 100)) fun x6 =>
 .ite x6
 (.ret (.bool true))
 (.call 28 [(.int .i64 4), (.int .u64 3), (.bool true)] fun x7 =>
 .pu (.ext x7 0) fun x8 =>
 .pu (.ext x7 1) fun x9 =>
 .call 47 [x8] fun x10 =>
 .pu (.ext x10 0) fun x11 =>
 .pu (.ext x10 1) fun x12 =>
 .pu (.bin .neq x12 (.int .i64 0)) fun x13 =>
 .ite x13
 (.ret (.bool false))
 (.pu (.eqn .ptr false x11 (.pointer none)) fun x14 =>
 .ite x14
 (.ret (.bool false))
 (.pu (.nck x8) fun x15 =>
 .pu (.fad 1 x15) fun x16 =>
 .rd (.ld false 1 x16) fun x17 =>
 .call 65 [x17] fun x18 =>
 .rd (.ld true 3 x0) fun x19 =>
 .call 49 [x11, x19] fun x20 =>
 .al (.nw 73 [(.int .i64 0), (.slice none 0 0)]) fun x21 =>
 .hv (.st 2 x21 x20) fun x22 =>
 .call 47 [(.pointer none)] fun x23 =>
 .pu (.ext x23 0) fun x24 =>
 .pu (.ext x23 1) fun x25 =>
 .pu (.fad 0 x21) fun x26 =>
 .rd (.ld false 1 x26) fun x27 =>
 .pu (.bin .eql x27 (.int .i64 1)) fun x28 =>
 .ite x28
 (.pu (.nck x8) fun x29 =>
 .pu (.fad 1 x29) fun x30 =>
 .rd (.ld false 1 x30) fun x31 =>
 .call 65 [x31] fun x32 =>
 .pu (.bin .eql x32 x18) fun x33 =>
 .ite x33
 (.pu (.bin .eql x25 (.int .i64 1)) fun x34 =>
 .ite x34
 (.rd (.ld true 3 x0) fun x35 =>
 .call 49 [(.pointer none), x35] fun x36 =>
 .pu (.fld 0 1 false x36) fun x37 =>
 .pu (.bin .eql x37 (.int .i64 1)) fun x38 =>
 .ite x38
 (.call 62 [(.pointer none)] fun x39 =>
 .pu (.un .not x39) fun x40 =>
 .ite x40
 (.call 55 [(.pointer none)] fun x41 =>
 .pu (.len x41) fun x42 =>
 .call 57 [(.pointer none)] fun x43 =>
 .pu (.bin .add x42 x43) fun x44 =>
 .pu (.bin .eql x44 (.int .i64 0)) fun x45 =>
 .ite x45
 (.call 50 [] fun x46 =>
 .ret x46)
 (.ret (.bool false)))
 (.ret (.bool false)))
 (.ret (.bool false)))
 (.ret (.bool false)))
 (.ret (.bool false)))
 (.ret (.bool false))))))
theorem d14 : ∀ (a0 : Value) , denF en [] Tryz.f14 [a0] = t14 a0 := by intros; kernel_rfl
theorem c14 {ro : HP} {S : List Asrt} {Q : Value → List Asrt → Prop} (a0 : Value) (h : WT Tryz.prog en.hb (t14 a0) false ro S Q fun _ _ _ => False) : Tri Tryz.prog ro 14 ⟨[a0]⟩ S Q :=
 tri_of_tree en_ok en_mixed Tryz.func14 (by rw [d14]; exact h)

/-- lockbox/world.New -/
def t28 (a0 a1 a2 : Value) : Tr :=
 .call 91 [a0] fun x0 =>
 .pu (.un .not x0) fun x1 =>
 .ite x1
 (.ret (.tuple ⟨[(.pointer none), (.int .i64 1)]⟩))
 (.pu (.bld [(.int .i64 0)] [(0, 1, a0)]) fun x2 =>
 .call 92 [] fun x3 =>
 .al (.nw 39 [(.int .i64 0)]) fun x4 =>
 .hv (.st 1 x4 x2) fun x5 =>
 .call 93 [] fun x6 =>
 .ite a2
 (.call 94 [] fun x7 =>
 .draw 0 (.rd (.ld true 1 x4) fun x8 =>
 .rd (.ld true 1 x4) fun x9 =>
 .call 96 [x9] fun x10 =>
 .call 95 [x10, x3] fun x11 =>
 .call 97 [x3] fun x12 =>
 .call 98 [x3] fun x13 =>
 .call 99 [a1, x3] fun x14 =>
 .pu (.bld [(.int .i64 0), (.pointer none), (.pointer none), (.pointer none), (.pointer none), (.pointer none), (.pointer none)] [(0, 1, x8), (1, 1, x3), (2, 1, x11), (3, 1, x12), (4, 1, x13), (5, 1, x14), (6, 1, x7)]) fun x15 =>
 .al (.bx 47 x15) fun x16 =>
 .fin 0 [x16, (.int .i64 0)]) fun u17 j18 =>
 .ret (.tuple ⟨[(sl u17 0), (sl u17 1)]⟩))
 (.draw 0 (.rd (.ld true 1 x4) fun x19 =>
 .rd (.ld true 1 x4) fun x20 =>
 .call 96 [x20] fun x21 =>
 .call 95 [x21, x3] fun x22 =>
 .call 97 [x3] fun x23 =>
 .call 98 [x3] fun x24 =>
 .call 99 [a1, x3] fun x25 =>
 .pu (.bld [(.int .i64 0), (.pointer none), (.pointer none), (.pointer none), (.pointer none), (.pointer none), (.pointer none)] [(0, 1, x19), (1, 1, x3), (2, 1, x22), (3, 1, x23), (4, 1, x24), (5, 1, x25), (6, 1, x6)]) fun x26 =>
 .al (.bx 47 x26) fun x27 =>
 .fin 0 [x27, (.int .i64 0)]) fun u28 j29 =>
 .ret (.tuple ⟨[(sl u28 0), (sl u28 1)]⟩)))
theorem d28 : ∀ (a0 a1 a2 : Value) , denF en [(2007, [6, 7])] Tryz.f28 [a0, a1, a2] = t28 a0 a1 a2 := by intros; kernel_rfl
theorem c28 {ro : HP} {S : List Asrt} {Q : Value → List Asrt → Prop} (a0 a1 a2 : Value) (h : WT Tryz.prog en.hb (t28 a0 a1 a2) false ro S Q fun _ _ _ => False) : Tri Tryz.prog ro 28 ⟨[a0, a1, a2]⟩ S Q :=
 tri_of_tree en_ok en_mixed Tryz.func28 (by rw [d28]; exact h)

/-- lockbox/nonce.New -/
def t29 (a0 : Value) : Tr :=
 .pu (.bin .gtr a0 (.int .u64 4294967295)) fun x0 =>
 .ite x0
 (.ret (.tuple ⟨[(.pointer none), (.int .i64 1)]⟩))
 (.pu (.bld [(.int .u64 0), (.int .i64 0)] [(0, 1, a0)]) fun x1 =>
 .al (.bx 172 x1) fun x2 =>
 .ret (.tuple ⟨[x2, (.int .i64 0)]⟩))
theorem d29 : ∀ (a0 : Value) , denF en [] Tryz.f29 [a0] = t29 a0 := by intros; kernel_rfl
theorem c29 {ro : HP} {S : List Asrt} {Q : Value → List Asrt → Prop} (a0 : Value) (h : WT Tryz.prog en.hb (t29 a0) false ro S Q fun _ _ _ => False) : Tri Tryz.prog ro 29 ⟨[a0]⟩ S Q :=
 tri_of_tree en_ok en_mixed Tryz.func29 (by rw [d29]; exact h)

/-- lockbox/commit.Do -/
def t30 (a0 a1 a2 : Value) : Tr :=
 .pu (.eqn .ptr false a0 (.pointer none)) fun x0 =>
 .ite x0
 (.ret (.int .i64 1))
 (.pu (.nck a0) fun x1 =>
 .pu (.fad 4 x1) fun x2 =>
 .rd (.ld false 1 x2) fun x3 =>
 .call 34 [x3] fun x4 =>
 .pu (.bin .add x4 (.int .u64 1)) fun x5 =>
 .pu (.bin .rem x5 (.int .u64 2)) fun x6 =>
 .pu (.cvi .i64 x6) fun x7 =>
 .call 100 [a0, x7, a2] fun x8 =>
 .pu (.ext x8 0) fun x9 =>
 .pu (.ext x8 1) fun x10 =>
 .al (.nw 90 [(.int .u64 0), (.int .u64 0)]) fun x11 =>
 .hv (.st 2 x11 x9) fun x12 =>
 .pu (.bin .neq x10 (.int .i64 0)) fun x13 =>
 .ite x13
 (.ret x10)
 (.pu (.nck a0) fun x14 =>
 .pu (.fad 2 x14) fun x15 =>
 .rd (.ld false 1 x15) fun x16 =>
 .call 101 [x16] fun x17 =>
 .pu (.un .not x17) fun x18 =>
 .ite x18
 (.ret (.int .i64 7))
 (.draw 0 (.pu (.nck a0) fun x19 =>
 .pu (.fad 5 x19) fun x20 =>
 .rd (.ld false 1 x20) fun x21 =>
 .call 54 [x21] fun x22 =>
 .pu (.nck a0) fun x23 =>
 .pu (.fad 0 x23) fun x24 =>
 .pu (.fad 0 x24) fun x25 =>
 .rd (.ld false 1 x25) fun x26 =>
 .rd (.ld true 2 x11) fun x27 =>
 .pu (.bld [(.int .u64 0), (.int .u32 0), (.int .i64 0), (.int .u64 0), (.int .u64 0)] [(0, 1, x5), (1, 1, x22), (2, 1, x26), (3, 2, x27)]) fun x28 =>
 .al (.nw 176 [(.int .u64 0), (.int .u32 0), (.int .i64 0), (.int .u64 0), (.int .u64 0)]) fun x29 =>
 .fin 0 [x29, x28]) fun u30 j31 =>
 .hv (.st 5 (sl u30 0) (sl u30 1)) fun x32 =>
 .rd (.ld true 5 (sl u30 0)) fun x33 =>
 .call 102 [a0, a1, x33] fun x34 =>
 .pu (.bin .neq x34 (.int .i64 0)) fun x35 =>
 .ite x35
 (.ret x34)
 (.pu (.nck a0) fun x36 =>
 .pu (.fad 2 x36) fun x37 =>
 .rd (.ld false 1 x37) fun x38 =>
 .call 101 [x38] fun x39 =>
 .pu (.un .not x39) fun x40 =>
 .ite x40
 (.ret (.int .i64 7))
 (.pu (.nck a0) fun x41 =>
 .pu (.fad 4 x41) fun x42 =>
 .rd (.ld false 1 x42) fun x43 =>
 .call 103 [x43] fun x44 =>
 .pu (.un .not x44) fun x45 =>
 .ite x45
 (.ret (.int .i64 7))
 (.ret (.int .i64 0)))))))
theorem d30 : ∀ (a0 a1 a2 : Value) , denF en [(2009, [10, 50]), (3009, [0, 1, 2, 3, 4, 5, 6, 7, 8, 9, 10, 11, 12, 13]), (4009, [14])] Tryz.f30 [a0, a1, a2] = t30 a0 a1 a2 := by intros; kernel_rfl
theorem c30 {ro : HP} {S : List Asrt} {Q : Value → List Asrt → Prop} (a0 a1 a2 : Value) (h : WT Tryz.prog en.hb (t30 a0 a1 a2) false ro S Q fun _ _ _ => False) : Tri Tryz.prog ro 30 ⟨[a0, a1, a2]⟩ S Q :=
 tri_of_tree en_ok en_mixed Tryz.func30 (by rw [d30]; exact h)

/-- lockbox/lockboxlaw23.some -/
def t31 (a0 a1 a2 : Value) : Tr :=
 .al (.mks 92 8 56 [(.int .i64 0), (.bool false), (.int .i64 0), (.int .u32 0), (.int .u32 0), (.int .u64 0), (.int .u64 0), (.int .u64 0)] a0 a0) fun x0 =>
 .loop 0 [(.int .i64 0)] (fun u1 j2 =>
 .pu (.bin .lss (sl u1 0) a0) fun x3 =>
 .ite x3
 (.join 2 (.pu (.len a1) fun x4 =>
 .pu (.bin .gtr x4 (.int .i64 0)) fun x5 =>
 .ite x5
 (.pu (.len a1) fun x6 =>
 .pu (.bin .rem (sl u1 0) x6) fun x7 =>
 .pu (.iad 1 a1 x7) fun x8 =>
 .rd (.ld false 1 x8) fun x9 =>
 .pu (.len a2) fun x10 =>
 .pu (.bin .gtr x10 (.int .i64 0)) fun x11 =>
 .ite x11
 (.pu (.len a2) fun x12 =>
 .pu (.bin .rem (sl u1 0) x12) fun x13 =>
 .pu (.iad 1 a2 x13) fun x14 =>
 .rd (.ld false 1 x14) fun x15 =>
 .pu (.bin .and x9 (.int .i64 3)) fun x16 =>
 .join 3 (.pu (.bin .eql x16 (.int .i64 1)) fun x17 =>
 .ite x17
 (.pu (.bld [(.int .i64 0), (.bool false), (.int .i64 0), (.int .u32 0), (.int .u32 0), (.int .u64 0), (.int .u64 0), (.int .u64 0)] [(0, 1, (.int .i64 2)), (1, 1, (.bool true)), (2, 1, (sl u1 0))]) fun x18 =>
 .pu (.iad 8 x0 (sl u1 0)) fun x19 =>
 .hv (.st 8 x19 x18) fun x20 =>
 .fin 3 [])
 (.pu (.bin .eql x16 (.int .i64 2)) fun x21 =>
 .ite x21
 (.pu (.bin .and x9 (.int .i64 3)) fun x22 =>
 .pu (.bin .eql x22 (.int .i64 2)) fun x23 =>
 .pu (.bin .add (sl u1 0) (.int .i64 16)) fun x24 =>
 .pu (.cvi .u32 (sl u1 0)) fun x25 =>
 .pu (.bld [(.int .u32 0), (.int .u32 0), (.int .u64 0)] [(0, 1, (.int .u32 1)), (1, 1, x25), (2, 1, x15)]) fun x26 =>
 .pu (.cvi .u64 (sl u1 0)) fun x27 =>
 .pu (.bld [(.int .u64 0), (.int .u64 0)] [(0, 1, x15), (1, 1, x27)]) fun x28 =>
 .pu (.bld [(.int .i64 0), (.bool false), (.int .i64 0), (.int .u32 0), (.int .u32 0), (.int .u64 0), (.int .u64 0), (.int .u64 0)] [(0, 1, (.int .i64 1)), (1, 1, x23), (2, 1, x24), (3, 3, x26), (6, 2, x28)]) fun x29 =>
 .pu (.iad 8 x0 (sl u1 0)) fun x30 =>
 .hv (.st 8 x30 x29) fun x31 =>
 .fin 3 [])
 (.pu (.bin .eql x16 (.int .i64 3)) fun x32 =>
 .ite x32
 (.pu (.bin .and x9 (.int .i64 3)) fun x33 =>
 .pu (.bin .eql x33 (.int .i64 2)) fun x34 =>
 .pu (.bin .add (sl u1 0) (.int .i64 16)) fun x35 =>
 .pu (.cvi .u32 (sl u1 0)) fun x36 =>
 .pu (.bld [(.int .u32 0), (.int .u32 0), (.int .u64 0)] [(0, 1, (.int .u32 1)), (1, 1, x36), (2, 1, x15)]) fun x37 =>
 .pu (.cvi .u64 (sl u1 0)) fun x38 =>
 .pu (.bld [(.int .u64 0), (.int .u64 0)] [(0, 1, x15), (1, 1, x38)]) fun x39 =>
 .pu (.bld [(.int .i64 0), (.bool false), (.int .i64 0), (.int .u32 0), (.int .u32 0), (.int .u64 0), (.int .u64 0), (.int .u64 0)] [(0, 1, (.int .i64 1)), (1, 1, x34), (2, 1, x35), (3, 3, x37), (6, 2, x39)]) fun x40 =>
 .pu (.iad 8 x0 (sl u1 0)) fun x41 =>
 .hv (.st 8 x41 x40) fun x42 =>
 .fin 3 [])
 (.fin 3 [])))) fun u43 j44 =>
 .fin 2 [])
 (.pu (.bin .and x9 (.int .i64 3)) fun x45 =>
 .join 3 (.pu (.bin .eql x45 (.int .i64 1)) fun x46 =>
 .ite x46
 (.pu (.bld [(.int .i64 0), (.bool false), (.int .i64 0), (.int .u32 0), (.int .u32 0), (.int .u64 0), (.int .u64 0), (.int .u64 0)] [(0, 1, (.int .i64 2)), (1, 1, (.bool true)), (2, 1, (sl u1 0))]) fun x47 =>
 .pu (.iad 8 x0 (sl u1 0)) fun x48 =>
 .hv (.st 8 x48 x47) fun x49 =>
 .fin 3 [])
 (.pu (.bin .eql x45 (.int .i64 2)) fun x50 =>
 .ite x50
 (.pu (.bin .and x9 (.int .i64 3)) fun x51 =>
 .pu (.bin .eql x51 (.int .i64 2)) fun x52 =>
 .pu (.bin .add (sl u1 0) (.int .i64 16)) fun x53 =>
 .pu (.cvi .u32 (sl u1 0)) fun x54 =>
 .pu (.bld [(.int .u32 0), (.int .u32 0), (.int .u64 0)] [(0, 1, (.int .u32 1)), (1, 1, x54), (2, 1, (.int .u64 0))]) fun x55 =>
 .pu (.cvi .u64 (sl u1 0)) fun x56 =>
 .pu (.bld [(.int .u64 0), (.int .u64 0)] [(0, 1, (.int .u64 0)), (1, 1, x56)]) fun x57 =>
 .pu (.bld [(.int .i64 0), (.bool false), (.int .i64 0), (.int .u32 0), (.int .u32 0), (.int .u64 0), (.int .u64 0), (.int .u64 0)] [(0, 1, (.int .i64 1)), (1, 1, x52), (2, 1, x53), (3, 3, x55), (6, 2, x57)]) fun x58 =>
 .pu (.iad 8 x0 (sl u1 0)) fun x59 =>
 .hv (.st 8 x59 x58) fun x60 =>
 .fin 3 [])
 (.pu (.bin .eql x45 (.int .i64 3)) fun x61 =>
 .ite x61
 (.pu (.bin .and x9 (.int .i64 3)) fun x62 =>
 .pu (.bin .eql x62 (.int .i64 2)) fun x63 =>
 .pu (.bin .add (sl u1 0) (.int .i64 16)) fun x64 =>
 .pu (.cvi .u32 (sl u1 0)) fun x65 =>
 .pu (.bld [(.int .u32 0), (.int .u32 0), (.int .u64 0)] [(0, 1, (.int .u32 1)), (1, 1, x65), (2, 1, (.int .u64 0))]) fun x66 =>
 .pu (.cvi .u64 (sl u1 0)) fun x67 =>
 .pu (.bld [(.int .u64 0), (.int .u64 0)] [(0, 1, (.int .u64 0)), (1, 1, x67)]) fun x68 =>
 .pu (.bld [(.int .i64 0), (.bool false), (.int .i64 0), (.int .u32 0), (.int .u32 0), (.int .u64 0), (.int .u64 0), (.int .u64 0)] [(0, 1, (.int .i64 1)), (1, 1, x63), (2, 1, x64), (3, 3, x66), (6, 2, x68)]) fun x69 =>
 .pu (.iad 8 x0 (sl u1 0)) fun x70 =>
 .hv (.st 8 x70 x69) fun x71 =>
 .fin 3 [])
 (.fin 3 [])))) fun u72 j73 =>
 .fin 2 []))
 (.pu (.len a2) fun x74 =>
 .pu (.bin .gtr x74 (.int .i64 0)) fun x75 =>
 .ite x75
 (.pu (.len a2) fun x76 =>
 .pu (.bin .rem (sl u1 0) x76) fun x77 =>
 .pu (.iad 1 a2 x77) fun x78 =>
 .rd (.ld false 1 x78) fun x79 =>
 .pu (.bin .and (.int .i64 0) (.int .i64 3)) fun x80 =>
 .join 3 (.pu (.bin .eql x80 (.int .i64 1)) fun x81 =>
 .ite x81
 (.pu (.bld [(.int .i64 0), (.bool false), (.int .i64 0), (.int .u32 0), (.int .u32 0), (.int .u64 0), (.int .u64 0), (.int .u64 0)] [(0, 1, (.int .i64 2)), (1, 1, (.bool true)), (2, 1, (sl u1 0))]) fun x82 =>
 .pu (.iad 8 x0 (sl u1 0)) fun x83 =>
 .hv (.st 8 x83 x82) fun x84 =>
 .fin 3 [])
 (.pu (.bin .eql x80 (.int .i64 2)) fun x85 =>
 .ite x85
 (.pu (.bin .and (.int .i64 0) (.int .i64 3)) fun x86 =>
 .pu (.bin .eql x86 (.int .i64 2)) fun x87 =>
 .pu (.bin .add (sl u1 0) (.int .i64 16)) fun x88 =>
 .pu (.cvi .u32 (sl u1 0)) fun x89 =>
 .pu (.bld [(.int .u32 0), (.int .u32 0), (.int .u64 0)] [(0, 1, (.int .u32 1)), (1, 1, x89), (2, 1, x79)]) fun x90 =>
 .pu (.cvi .u64 (sl u1 0)) fun x91 =>
 .pu (.bld [(.int .u64 0), (.int .u64 0)] [(0, 1, x79), (1, 1, x91)]) fun x92 =>
 .pu (.bld [(.int .i64 0), (.bool false), (.int .i64 0), (.int .u32 0), (.int .u32 0), (.int .u64 0), (.int .u64 0), (.int .u64 0)] [(0, 1, (.int .i64 1)), (1, 1, x87), (2, 1, x88), (3, 3, x90), (6, 2, x92)]) fun x93 =>
 .pu (.iad 8 x0 (sl u1 0)) fun x94 =>
 .hv (.st 8 x94 x93) fun x95 =>
 .fin 3 [])
 (.pu (.bin .eql x80 (.int .i64 3)) fun x96 =>
 .ite x96
 (.pu (.bin .and (.int .i64 0) (.int .i64 3)) fun x97 =>
 .pu (.bin .eql x97 (.int .i64 2)) fun x98 =>
 .pu (.bin .add (sl u1 0) (.int .i64 16)) fun x99 =>
 .pu (.cvi .u32 (sl u1 0)) fun x100 =>
 .pu (.bld [(.int .u32 0), (.int .u32 0), (.int .u64 0)] [(0, 1, (.int .u32 1)), (1, 1, x100), (2, 1, x79)]) fun x101 =>
 .pu (.cvi .u64 (sl u1 0)) fun x102 =>
 .pu (.bld [(.int .u64 0), (.int .u64 0)] [(0, 1, x79), (1, 1, x102)]) fun x103 =>
 .pu (.bld [(.int .i64 0), (.bool false), (.int .i64 0), (.int .u32 0), (.int .u32 0), (.int .u64 0), (.int .u64 0), (.int .u64 0)] [(0, 1, (.int .i64 1)), (1, 1, x98), (2, 1, x99), (3, 3, x101), (6, 2, x103)]) fun x104 =>
 .pu (.iad 8 x0 (sl u1 0)) fun x105 =>
 .hv (.st 8 x105 x104) fun x106 =>
 .fin 3 [])
 (.fin 3 [])))) fun u107 j108 =>
 .fin 2 [])
 (.pu (.bin .and (.int .i64 0) (.int .i64 3)) fun x109 =>
 .join 3 (.pu (.bin .eql x109 (.int .i64 1)) fun x110 =>
 .ite x110
 (.pu (.bld [(.int .i64 0), (.bool false), (.int .i64 0), (.int .u32 0), (.int .u32 0), (.int .u64 0), (.int .u64 0), (.int .u64 0)] [(0, 1, (.int .i64 2)), (1, 1, (.bool true)), (2, 1, (sl u1 0))]) fun x111 =>
 .pu (.iad 8 x0 (sl u1 0)) fun x112 =>
 .hv (.st 8 x112 x111) fun x113 =>
 .fin 3 [])
 (.pu (.bin .eql x109 (.int .i64 2)) fun x114 =>
 .ite x114
 (.pu (.bin .and (.int .i64 0) (.int .i64 3)) fun x115 =>
 .pu (.bin .eql x115 (.int .i64 2)) fun x116 =>
 .pu (.bin .add (sl u1 0) (.int .i64 16)) fun x117 =>
 .pu (.cvi .u32 (sl u1 0)) fun x118 =>
 .pu (.bld [(.int .u32 0), (.int .u32 0), (.int .u64 0)] [(0, 1, (.int .u32 1)), (1, 1, x118), (2, 1, (.int .u64 0))]) fun x119 =>
 .pu (.cvi .u64 (sl u1 0)) fun x120 =>
 .pu (.bld [(.int .u64 0), (.int .u64 0)] [(0, 1, (.int .u64 0)), (1, 1, x120)]) fun x121 =>
 .pu (.bld [(.int .i64 0), (.bool false), (.int .i64 0), (.int .u32 0), (.int .u32 0), (.int .u64 0), (.int .u64 0), (.int .u64 0)] [(0, 1, (.int .i64 1)), (1, 1, x116), (2, 1, x117), (3, 3, x119), (6, 2, x121)]) fun x122 =>
 .pu (.iad 8 x0 (sl u1 0)) fun x123 =>
 .hv (.st 8 x123 x122) fun x124 =>
 .fin 3 [])
 (.pu (.bin .eql x109 (.int .i64 3)) fun x125 =>
 .ite x125
 (.pu (.bin .and (.int .i64 0) (.int .i64 3)) fun x126 =>
 .pu (.bin .eql x126 (.int .i64 2)) fun x127 =>
 .pu (.bin .add (sl u1 0) (.int .i64 16)) fun x128 =>
 .pu (.cvi .u32 (sl u1 0)) fun x129 =>
 .pu (.bld [(.int .u32 0), (.int .u32 0), (.int .u64 0)] [(0, 1, (.int .u32 1)), (1, 1, x129), (2, 1, (.int .u64 0))]) fun x130 =>
 .pu (.cvi .u64 (sl u1 0)) fun x131 =>
 .pu (.bld [(.int .u64 0), (.int .u64 0)] [(0, 1, (.int .u64 0)), (1, 1, x131)]) fun x132 =>
 .pu (.bld [(.int .i64 0), (.bool false), (.int .i64 0), (.int .u32 0), (.int .u32 0), (.int .u64 0), (.int .u64 0), (.int .u64 0)] [(0, 1, (.int .i64 1)), (1, 1, x127), (2, 1, x128), (3, 3, x130), (6, 2, x132)]) fun x133 =>
 .pu (.iad 8 x0 (sl u1 0)) fun x134 =>
 .hv (.st 8 x134 x133) fun x135 =>
 .fin 3 [])
 (.fin 3 [])))) fun u136 j137 =>
 .fin 2 []))) fun u138 j139 =>
 .pu (.bin .add (sl u1 0) (.int .i64 1)) fun x140 =>
 .fin 0 [x140])
 (.fin 1 [(sl u1 0)])) fun u141 j142 =>
 .ret x0
theorem d31 : ∀ (a0 a1 a2 : Value) , denF en [(2, []), (1, []), (0, [8])] Tryz.f31 [a0, a1, a2] = t31 a0 a1 a2 := by intros; kernel_rfl
theorem c31 {ro : HP} {S : List Asrt} {Q : Value → List Asrt → Prop} (a0 a1 a2 : Value) (h : WT Tryz.prog en.hb (t31 a0 a1 a2) false ro S Q fun _ _ _ => False) : Tri Tryz.prog ro 31 ⟨[a0, a1, a2]⟩ S Q :=
 tri_of_tree en_ok en_mixed Tryz.func31 (by rw [d31]; exact h)

/-- lockbox/commit.Load -/
def t32 (a0 : Value) : Tr :=
 .pu (.eqn .ptr false a0 (.pointer none)) fun x0 =>
 .ite x0
 (.ret (.tuple ⟨[(.slice none 0 0), (.int .i64 1)]⟩))
 (.pu (.nck a0) fun x1 =>
 .pu (.fad 1 x1) fun x2 =>
 .rd (.ld false 1 x2) fun x3 =>
 .call 104 [x3] fun x4 =>
 .pu (.un .not x4) fun x5 =>
 .ite x5
 (.ret (.tuple ⟨[(.slice none 0 0), (.int .i64 7)]⟩))
 (.pu (.nck a0) fun x6 =>
 .pu (.fad 4 x6) fun x7 =>
 .rd (.ld false 1 x7) fun x8 =>
 .call 34 [x8] fun x9 =>
 .pu (.bin .eql x9 (.int .u64 0)) fun x10 =>
 .ite x10
 (.pu (.nck a0) fun x11 =>
 .pu (.fad 0 x11) fun x12 =>
 .pu (.fad 0 x12) fun x13 =>
 .rd (.ld false 1 x13) fun x14 =>
 .al (.mks 92 8 56 [(.int .i64 0), (.bool false), (.int .i64 0), (.int .u32 0), (.int .u32 0), (.int .u64 0), (.int .u64 0), (.int .u64 0)] x14 x14) fun x15 =>
 .ret (.tuple ⟨[x15, (.int .i64 0)]⟩))
 (.call 105 [a0, x9] fun x16 =>
 .pu (.ext x16 0) fun x17 =>
 .pu (.ext x16 1) fun x18 =>
 .al (.nw 176 [(.int .u64 0), (.int .u32 0), (.int .i64 0), (.int .u64 0), (.int .u64 0)]) fun x19 =>
 .hv (.st 5 x19 x17) fun x20 =>
 .pu (.bin .neq x18 (.int .i64 0)) fun x21 =>
 .ite x21
 (.ret (.tuple ⟨[(.slice none 0 0), x18]⟩))
 (.pu (.bin .rem x9 (.int .u64 2)) fun x22 =>
 .pu (.cvi .i64 x22) fun x23 =>
 .pu (.fad 3 x19) fun x24 =>
 .rd (.ld true 2 x24) fun x25 =>
 .call 106 [a0, x23, x25] fun x26 =>
 .pu (.ext x26 0) fun x27 =>
 .pu (.ext x26 1) fun x28 =>
 .ret (.tuple ⟨[x27, x28]⟩)))))
theorem d32 : ∀ (a0 : Value) , denF en [] Tryz.f32 [a0] = t32 a0 := by intros; kernel_rfl
theorem c32 {ro : HP} {S : List Asrt} {Q : Value → List Asrt → Prop} (a0 : Value) (h : WT Tryz.prog en.hb (t32 a0) false ro S Q fun _ _ _ => False) : Tri Tryz.prog ro 32 ⟨[a0]⟩ S Q :=
 tri_of_tree en_ok en_mixed Tryz.func32 (by rw [d32]; exact h)

/-- lockbox/lockboxref15.Same -/
def t33 (a0 a1 : Value) : Tr :=
 .pu (.len a0) fun x0 =>
 .pu (.len a1) fun x1 =>
 .pu (.bin .neq x0 x1) fun x2 =>
 .ite x2
 (.ret (.bool false))
 (.loop 0 [(.int .i64 0)] (fun u3 j4 =>
 .pu (.len a0) fun x5 =>
 .pu (.bin .lss (sl u3 0) x5) fun x6 =>
 .ite x6
 (.draw 2 (.pu (.iad 8 a0 (sl u3 0)) fun x7 =>
 .rd (.ld true 8 x7) fun x8 =>
 .pu (.iad 8 a1 (sl u3 0)) fun x9 =>
 .rd (.ld true 8 x9) fun x10 =>
 .pu (.eqa true [some .i64, none, some .i64, some .u32, some .u32, some .u64, some .u64, some .u64] x8 x10) fun x11 =>
 .fin 2 [x11]) fun u12 j13 =>
 .ite (sl u12 0)
 (.ret (.bool false))
 (.pu (.bin .add (sl u3 0) (.int .i64 1)) fun x14 =>
 .fin 0 [x14]))
 (.fin 1 [(sl u3 0)])) fun u15 j16 =>
 .ret (.bool true))
theorem d33 : ∀ (a0 a1 : Value) , denF en [(2006, [25]), (0, [5])] Tryz.f33 [a0, a1] = t33 a0 a1 := by intros; kernel_rfl
theorem c33 {ro : HP} {S : List Asrt} {Q : Value → List Asrt → Prop} (a0 a1 : Value) (h : WT Tryz.prog en.hb (t33 a0 a1) false ro S Q fun _ _ _ => False) : Tri Tryz.prog ro 33 ⟨[a0, a1]⟩ S Q :=
 tri_of_tree en_ok en_mixed Tryz.func33 (by rw [d33]; exact h)

/-- (*lockbox/count.Counter).Value -/
def t34 (a0 : Value) : Tr :=
 .pu (.eqn .ptr false a0 (.pointer none)) fun x0 =>
 .ite x0
 (.ret (.int .u64 0))
 (.pu (.nck a0) fun x1 =>
 .pu (.fad 1 x1) fun x2 =>
 .rd (.ld false 1 x2) fun x3 =>
 .ret x3)
theorem d34 : ∀ (a0 : Value) , denF en [] Tryz.f34 [a0] = t34 a0 := by intros; kernel_rfl
theorem c34 {ro : HP} {S : List Asrt} {Q : Value → List Asrt → Prop} (a0 : Value) (h : WT Tryz.prog en.hb (t34 a0) false ro S Q fun _ _ _ => False) : Tri Tryz.prog ro 34 ⟨[a0]⟩ S Q :=
 tri_of_tree en_ok en_mixed Tryz.func34 (by rw [d34]; exact h)

/-- lockbox/lockboxlaw23.known -/
def t35 : Tr :=
 .call 28 [(.int .i64 4), (.int .u64 1), (.bool true)] fun x0 =>
 .pu (.ext x0 0) fun x1 =>
 .pu (.ext x0 1) fun x2 =>
 .pu (.eqn .ptr false x1 (.pointer none)) fun x3 =>
 .ite x3
 (.ret (.bool false))
 (.call 29 [(.int .u64 0)] fun x4 =>
 .pu (.ext x4 0) fun x5 =>
 .pu (.ext x4 1) fun x6 =>
 .al (.mks 92 8 56 [(.int .i64 0), (.bool false), (.int .i64 0), (.int .u32 0), (.int .u32 0), (.int .u64 0), (.int .u64 0), (.int .u64 0)] (.int .i64 4) (.int .i64 4)) fun x7 =>
 .call 30 [x1, x5, x7] fun x8 =>
 .call 32 [x1] fun x9 =>
 .pu (.ext x9 0) fun x10 =>
 .pu (.ext x9 1) fun x11 =>
 .pu (.bin .eql x8 (.int .i64 0)) fun x12 =>
 .ite x12
 (.pu (.nck x1) fun x13 =>
 .pu (.fad 1 x13) fun x14 =>
 .rd (.ld false 1 x14) fun x15 =>
 .call 65 [x15] fun x16 =>
 .pu (.bin .eql x16 (.int .i64 6)) fun x17 =>
 .ite x17
 (.pu (.bin .eql x11 (.int .i64 0)) fun x18 =>
 .ite x18
 (.pu (.len x10) fun x19 =>
 .pu (.bin .eql x19 (.int .i64 4)) fun x20 =>
 .ite x20
 (.pu (.nck x1) fun x21 =>
 .pu (.fad 4 x21) fun x22 =>
 .rd (.ld false 1 x22) fun x23 =>
 .call 34 [x23] fun x24 =>
 .pu (.bin .eql x24 (.int .u64 1)) fun x25 =>
 .ret x25)
 (.ret (.bool false)))
 (.ret (.bool false)))
 (.ret (.bool false)))
 (.ret (.bool false)))
theorem d35 : denF en [] Tryz.f35 [] = t35  := by intros; kernel_rfl
theorem c35 {ro : HP} {S : List Asrt} {Q : Value → List Asrt → Prop} (h : WT Tryz.prog en.hb (t35 ) false ro S Q fun _ _ _ => False) : Tri Tryz.prog ro 35 ⟨[]⟩ S Q :=
 tri_of_tree en_ok en_mixed Tryz.func35 (by rw [d35]; exact h)

/-- (*lockbox/power.Power).Fuse -/
def t36 (a0 a1 : Value) : Tr :=
 .pu (.eqn .ptr true a0 (.pointer none)) fun x0 =>
 .ite x0
 (.pu (.bin .geq a1 (.int .i64 0)) fun x1 =>
 .pu (.nck a0) fun x2 =>
 .pu (.fad 1 x2) fun x3 =>
 .hv (.st 1 x3 x1) fun x4 =>
 .pu (.nck a0) fun x5 =>
 .pu (.fad 2 x5) fun x6 =>
 .hv (.st 1 x6 a1) fun x7 =>
 .ret (.tuple #[]))
 (.ret (.tuple #[]))
theorem d36 : ∀ (a0 a1 : Value) , denF en [] Tryz.f36 [a0, a1] = t36 a0 a1 := by intros; kernel_rfl
theorem c36 {ro : HP} {S : List Asrt} {Q : Value → List Asrt → Prop} (a0 a1 : Value) (h : WT Tryz.prog en.hb (t36 a0 a1) false ro S Q fun _ _ _ => False) : Tri Tryz.prog ro 36 ⟨[a0, a1]⟩ S Q :=
 tri_of_tree en_ok en_mixed Tryz.func36 (by rw [d36]; exact h)

/-- (*lockbox/world.World).Crash -/
def t37 (a0 a1 : Value) : Tr :=
 .pu (.eqn .ptr false a0 (.pointer none)) fun x0 =>
 .ite x0
 (.ret (.tuple #[]))
 (.pu (.nck a0) fun x1 =>
 .pu (.fad 2 x1) fun x2 =>
 .rd (.ld false 1 x2) fun x3 =>
 .call 107 [x3, a1] fun x4 =>
 .pu (.nck a0) fun x5 =>
 .pu (.fad 3 x5) fun x6 =>
 .rd (.ld false 1 x6) fun x7 =>
 .call 108 [x7, a1] fun x8 =>
 .pu (.nck a0) fun x9 =>
 .pu (.fad 1 x9) fun x10 =>
 .rd (.ld false 1 x10) fun x11 =>
 .call 109 [x11] fun x12 =>
 .ret (.tuple #[]))
theorem d37 : ∀ (a0 a1 : Value) , denF en [] Tryz.f37 [a0, a1] = t37 a0 a1 := by intros; kernel_rfl
theorem c37 {ro : HP} {S : List Asrt} {Q : Value → List Asrt → Prop} (a0 a1 : Value) (h : WT Tryz.prog en.hb (t37 a0 a1) false ro S Q fun _ _ _ => False) : Tri Tryz.prog ro 37 ⟨[a0, a1]⟩ S Q :=
 tri_of_tree en_ok en_mixed Tryz.func37 (by rw [d37]; exact h)

/-- (*lockbox/count.Counter).Boot -/
def t38 (a0 : Value) : Tr :=
 .pu (.eqn .ptr false a0 (.pointer none)) fun x0 =>
 .ite x0
 (.ret (.bool false))
 (.pu (.nck a0) fun x1 =>
 .pu (.fad 0 x1) fun x2 =>
 .rd (.ld false 1 x2) fun x3 =>
 .call 110 [x3] fun x4 =>
 .pu (.un .not x4) fun x5 =>
 .ite x5
 (.ret (.bool false))
 (.pu (.nck a0) fun x6 =>
 .pu (.fad 2 x6) fun x7 =>
 .rd (.ld false 1 x7) fun x8 =>
 .pu (.bin .add x8 (.int .u64 1)) fun x9 =>
 .pu (.nck a0) fun x10 =>
 .pu (.fad 2 x10) fun x11 =>
 .hv (.st 1 x11 x9) fun x12 =>
 .ret (.bool true)))
theorem d38 : ∀ (a0 : Value) , denF en [] Tryz.f38 [a0] = t38 a0 := by intros; kernel_rfl
theorem c38 {ro : HP} {S : List Asrt} {Q : Value → List Asrt → Prop} (a0 : Value) (h : WT Tryz.prog en.hb (t38 a0) false ro S Q fun _ _ _ => False) : Tri Tryz.prog ro 38 ⟨[a0]⟩ S Q :=
 tri_of_tree en_ok en_mixed Tryz.func38 (by rw [d38]; exact h)

/-- (*lockbox/count.Counter).Boots -/
def t39 (a0 : Value) : Tr :=
 .pu (.eqn .ptr false a0 (.pointer none)) fun x0 =>
 .ite x0
 (.ret (.int .u64 0))
 (.pu (.nck a0) fun x1 =>
 .pu (.fad 2 x1) fun x2 =>
 .rd (.ld false 1 x2) fun x3 =>
 .ret x3)
theorem d39 : ∀ (a0 : Value) , denF en [] Tryz.f39 [a0] = t39 a0 := by intros; kernel_rfl
theorem c39 {ro : HP} {S : List Asrt} {Q : Value → List Asrt → Prop} (a0 : Value) (h : WT Tryz.prog en.hb (t39 a0) false ro S Q fun _ _ _ => False) : Tri Tryz.prog ro 39 ⟨[a0]⟩ S Q :=
 tri_of_tree en_ok en_mixed Tryz.func39 (by rw [d39]; exact h)

/-- (*lockbox/ssd.SSD).Snap -/
def t40 (a0 : Value) : Tr :=
 .pu (.eqn .ptr false a0 (.pointer none)) fun x0 =>
 .ite x0
 (.ret (.slice none 0 0))
 (.pu (.nck a0) fun x1 =>
 .pu (.fad 1 x1) fun x2 =>
 .rd (.ld false 1 x2) fun x3 =>
 .call 111 [x3] fun x4 =>
 .pu (.nck a0) fun x5 =>
 .pu (.fad 2 x5) fun x6 =>
 .rd (.ld false 1 x6) fun x7 =>
 .pu (.len x7) fun x8 =>
 .loop 0 [(.int .i64 0)] (fun u9 j10 =>
 .pu (.bin .lss (sl u9 0) x8) fun x11 =>
 .ite x11
 (.pu (.iad 2 x7 (sl u9 0)) fun x12 =>
 .rd (.ld true 2 x12) fun x13 =>
 .al (.nw 189 [(.int .i64 0), (.slice none 0 0)]) fun x14 =>
 .hv (.st 2 x14 x13) fun x15 =>
 .draw 2 (.pu (.fad 0 x14) fun x16 =>
 .rd (.ld false 1 x16) fun x17 =>
 .pu (.slc 1 x4 (some x17) none none) fun x18 =>
 .pu (.fad 1 x14) fun x19 =>
 .rd (.ld false 1 x19) fun x20 =>
 .hv (.cpy 1 x18 x20) fun x21 =>
 .fin 2 []) fun u22 j23 =>
 .pu (.bin .add (sl u9 0) (.int .i64 1)) fun x24 =>
 .fin 0 [x24])
 (.fin 1 [(sl u9 0)])) fun u25 j26 =>
 .ret x4)
theorem d40 : ∀ (a0 : Value) , denF en [(2007, []), (0, [18])] Tryz.f40 [a0] = t40 a0 := by intros; kernel_rfl
theorem c40 {ro : HP} {S : List Asrt} {Q : Value → List Asrt → Prop} (a0 : Value) (h : WT Tryz.prog en.hb (t40 a0) false ro S Q fun _ _ _ => False) : Tri Tryz.prog ro 40 ⟨[a0]⟩ S Q :=
 tri_of_tree en_ok en_mixed Tryz.func40 (by rw [d40]; exact h)

/-- (*lockbox/ssd.SSD).Back -/
def t41 (a0 a1 : Value) : Tr :=
 .pu (.eqn .ptr false a0 (.pointer none)) fun x0 =>
 .ite x0
 (.ret (.bool false))
 (.pu (.len a1) fun x1 =>
 .call 112 [a0] fun x2 =>
 .pu (.bin .neq x1 x2) fun x3 =>
 .ite x3
 (.ret (.bool false))
 (.al (.bsl 5 1 0 [(.int .u8 0)] []) fun x4 =>
 .hv (.app 5 1 1 [(.int .u8 0)] x4 a1) fun x5 =>
 .pu (.nck a0) fun x6 =>
 .pu (.fad 1 x6) fun x7 =>
 .hv (.st 1 x7 x5) fun x8 =>
 .pu (.nck a0) fun x9 =>
 .pu (.fad 2 x9) fun x10 =>
 .hv (.st 1 x10 (.slice none 0 0)) fun x11 =>
 .ret (.bool true)))
theorem d41 : ∀ (a0 a1 : Value) , denF en [] Tryz.f41 [a0, a1] = t41 a0 a1 := by intros; kernel_rfl
theorem c41 {ro : HP} {S : List Asrt} {Q : Value → List Asrt → Prop} (a0 a1 : Value) (h : WT Tryz.prog en.hb (t41 a0 a1) false ro S Q fun _ _ _ => False) : Tri Tryz.prog ro 41 ⟨[a0, a1]⟩ S Q :=
 tri_of_tree en_ok en_mixed Tryz.func41 (by rw [d41]; exact h)

/-- (*lockbox/ssd.SSD).Smash -/
def t42 (a0 a1 a2 : Value) : Tr :=
 .pu (.len a2) fun x0 =>
 .call 113 [a0, a1, x0] fun x1 =>
 .pu (.un .not x1) fun x2 =>
 .ite x2
 (.ret (.bool false))
 (.call 114 [a0, (.func (.func 115) ⟨[]⟩ ⟨[]⟩)] fun x3 =>
 .pu (.nck a0) fun x4 =>
 .pu (.fad 1 x4) fun x5 =>
 .rd (.ld false 1 x5) fun x6 =>
 .pu (.slc 1 x6 (some a1) none none) fun x7 =>
 .hv (.cpy 1 x7 a2) fun x8 =>
 .ret (.bool true))
theorem d42 : ∀ (a0 a1 a2 : Value) , denF en [] Tryz.f42 [a0, a1, a2] = t42 a0 a1 a2 := by intros; kernel_rfl
theorem c42 {ro : HP} {S : List Asrt} {Q : Value → List Asrt → Prop} (a0 a1 a2 : Value) (h : WT Tryz.prog en.hb (t42 a0 a1 a2) false ro S Q fun _ _ _ => False) : Tri Tryz.prog ro 42 ⟨[a0, a1, a2]⟩ S Q :=
 tri_of_tree en_ok en_mixed Tryz.func42 (by rw [d42]; exact h)

/-- (*lockbox/keys.Keys).Current -/
def t54 (a0 : Value) : Tr :=
 .pu (.eqn .ptr false a0 (.pointer none)) fun x0 =>
 .ite x0
 (.ret (.int .u32 0))
 (.draw 0 (.pu (.nck a0) fun x1 =>
 .pu (.fad 2 x1) fun x2 =>
 .rd (.ld false 1 x2) fun x3 =>
 .pu (.nck a0) fun x4 =>
 .pu (.fad 2 x4) fun x5 =>
 .rd (.ld false 1 x5) fun x6 =>
 .pu (.len x6) fun x7 =>
 .pu (.bin .sub x7 (.int .i64 1)) fun x8 =>
 .pu (.iad 1 x3 x8) fun x9 =>
 .rd (.ld false 1 x9) fun x10 =>
 .fin 0 [x10]) fun u11 j12 =>
 .ret (sl u11 0))
theorem d54 : ∀ (a0 : Value) , denF en [(2003, [2])] Tryz.f54 [a0] = t54 a0 := by intros; kernel_rfl
theorem c54 {ro : HP} {S : List Asrt} {Q : Value → List Asrt → Prop} (a0 : Value) (h : WT Tryz.prog en.hb (t54 a0) false ro S Q fun _ _ _ => False) : Tri Tryz.prog ro 54 ⟨[a0]⟩ S Q :=
 tri_of_tree en_ok en_mixed Tryz.func54 (by rw [d54]; exact h)

/-- (*lockbox/disk.Disk).Read -/
def t56 (a0 a1 : Value) : Tr :=
 .call 129 [a0, a1] fun x0 =>
 .pu (.un .not x0) fun x1 =>
 .ite x1
 (.ret (.tuple ⟨[(.slice none 0 0), (.bool false)]⟩))
 (.pu (.nck a0) fun x2 =>
 .pu (.fad 0 x2) fun x3 =>
 .rd (.ld false 1 x3) fun x4 =>
 .call 104 [x4] fun x5 =>
 .pu (.un .not x5) fun x6 =>
 .ite x6
 (.ret (.tuple ⟨[(.slice none 0 0), (.bool false)]⟩))
 (.pu (.nck a0) fun x7 =>
 .pu (.fad 1 x7) fun x8 =>
 .pu (.aad 32 1 x8 a1) fun x9 =>
 .rd (.ld false 1 x9) fun x10 =>
 .pu (.nck a0) fun x11 =>
 .pu (.fad 33 x11) fun x12 =>
 .rd (.ld false 1 x12) fun x13 =>
 .pu (.len x13) fun x14 =>
 .loop 0 [x10, (.int .i64 0)] (fun u15 j16 =>
 .pu (.bin .lss (sl u15 1) x14) fun x17 =>
 .ite x17
 (.join 2 (.pu (.iad 2 x13 (sl u15 1)) fun x18 =>
 .rd (.ld true 2 x18) fun x19 =>
 .al (.nw 189 [(.int .i64 0), (.slice none 0 0)]) fun x20 =>
 .hv (.st 2 x20 x19) fun x21 =>
 .pu (.fad 0 x20) fun x22 =>
 .rd (.ld false 1 x22) fun x23 =>
 .pu (.bin .eql x23 a1) fun x24 =>
 .ite x24
 (.pu (.fad 1 x20) fun x25 =>
 .rd (.ld false 1 x25) fun x26 =>
 .fin 2 [x26])
 (.fin 2 [(sl u15 0)])) fun u27 j28 =>
 .pu (.bin .add (sl u15 1) (.int .i64 1)) fun x29 =>
 .fin 0 [(sl u27 0), x29])
 (.fin 1 [(sl u15 0), (sl u15 1)])) fun u30 j31 =>
 .call 111 [(sl u30 0)] fun x32 =>
 .ret (.tuple ⟨[x32, (.bool true)]⟩)))
theorem d56 : ∀ (a0 a1 : Value) , denF en [(1, [6]), (0, [6, 32])] Tryz.f56 [a0, a1] = t56 a0 a1 := by intros; kernel_rfl
theorem c56 {ro : HP} {S : List Asrt} {Q : Value → List Asrt → Prop} (a0 a1 : Value) (h : WT Tryz.prog en.hb (t56 a0 a1) false ro S Q fun _ _ _ => False) : Tri Tryz.prog ro 56 ⟨[a0, a1]⟩ S Q :=
 tri_of_tree en_ok en_mixed Tryz.func56 (by rw [d56]; exact h)

/-- (*lockbox/keys.Keys).Epochs -/
def t58 (a0 : Value) : Tr :=
 .pu (.eqn .ptr false a0 (.pointer none)) fun x0 =>
 .ite x0
 (.ret (.slice none 0 0))
 (.pu (.nck a0) fun x1 =>
 .pu (.fad 2 x1) fun x2 =>
 .rd (.ld false 1 x2) fun x3 =>
 .call 131 [x3] fun x4 =>
 .ret x4)
theorem d58 : ∀ (a0 : Value) , denF en [] Tryz.f58 [a0] = t58 a0 := by intros; kernel_rfl
theorem c58 {ro : HP} {S : List Asrt} {Q : Value → List Asrt → Prop} (a0 : Value) (h : WT Tryz.prog en.hb (t58 a0) false ro S Q fun _ _ _ => False) : Tri Tryz.prog ro 58 ⟨[a0]⟩ S Q :=
 tri_of_tree en_ok en_mixed Tryz.func58 (by rw [d58]; exact h)

/-- (*lockbox/disk.Disk).Write -/
def t59 (a0 a1 a2 : Value) : Tr :=
 .call 129 [a0, a1] fun x0 =>
 .pu (.un .not x0) fun x1 =>
 .ite x1
 (.ret (.bool false))
 (.pu (.len a2) fun x2 =>
 .pu (.bin .neq x2 (.int .i64 32)) fun x3 =>
 .ite x3
 (.ret (.bool false))
 (.pu (.nck a0) fun x4 =>
 .pu (.fad 35 x4) fun x5 =>
 .rd (.ld false 1 x5) fun x6 =>
 .ite x6
 (.ret (.bool false))
 (.pu (.nck a0) fun x7 =>
 .pu (.fad 0 x7) fun x8 =>
 .rd (.ld false 1 x8) fun x9 =>
 .call 110 [x9] fun x10 =>
 .pu (.un .not x10) fun x11 =>
 .ite x11
 (.ret (.bool false))
 (.draw 0 (.pu (.nck a0) fun x12 =>
 .pu (.fad 33 x12) fun x13 =>
 .rd (.ld false 1 x13) fun x14 =>
 .call 111 [a2] fun x15 =>
 .pu (.bld [(.int .i64 0), (.slice none 0 0)] [(0, 1, a1), (1, 1, x15)]) fun x16 =>
 .al (.bsl 189 2 1 [(.int .i64 0), (.slice none 0 0)] [(0, 2, x16)]) fun x17 =>
 .hv (.app 189 2 32 [(.int .i64 0), (.slice none 0 0)] x14 x17) fun x18 =>
 .fin 0 [a0, x18]) fun u19 j20 =>
 .pu (.nck (sl u19 0)) fun x21 =>
 .pu (.fad 33 x21) fun x22 =>
 .hv (.st 1 x22 (sl u19 1)) fun x23 =>
 .draw 0 (.pu (.nck a0) fun x24 =>
 .pu (.fad 34 x24) fun x25 =>
 .rd (.ld false 1 x25) fun x26 =>
 .call 111 [a2] fun x27 =>
 .pu (.bld [(.int .i64 0), (.slice none 0 0)] [(0, 1, a1), (1, 1, x27)]) fun x28 =>
 .al (.bsl 189 2 1 [(.int .i64 0), (.slice none 0 0)] [(0, 2, x28)]) fun x29 =>
 .hv (.app 189 2 32 [(.int .i64 0), (.slice none 0 0)] x26 x29) fun x30 =>
 .fin 0 [a0, x30]) fun u31 j32 =>
 .pu (.nck (sl u31 0)) fun x33 =>
 .pu (.fad 34 x33) fun x34 =>
 .hv (.st 1 x34 (sl u31 1)) fun x35 =>
 .ret (.bool true)))))
theorem d59 : ∀ (a0 a1 a2 : Value) , denF en [(2003, [30, 40]), (3003, [0, 1, 2, 3, 4, 5, 6, 7, 8, 9, 10]), (4003, [11, 12, 13]), (2004, [43, 53]), (3004, [0, 1, 2, 3, 4, 5, 6, 7, 8, 9, 10]), (4004, [11, 12, 13])] Tryz.f59 [a0, a1, a2] = t59 a0 a1 a2 := by intros; kernel_rfl
theorem c59 {ro : HP} {S : List Asrt} {Q : Value → List Asrt → Prop} (a0 a1 a2 : Value) (h : WT Tryz.prog en.hb (t59 a0 a1 a2) false ro S Q fun _ _ _ => False) : Tri Tryz.prog ro 59 ⟨[a0, a1, a2]⟩ S Q :=
 tri_of_tree en_ok en_mixed Tryz.func59 (by rw [d59]; exact h)

/-- (*lockbox/disk.Disk).Barrier -/
def t60 (a0 : Value) : Tr :=
 .pu (.eqn .ptr false a0 (.pointer none)) fun x0 =>
 .ite x0
 (.ret (.bool false))
 (.pu (.nck a0) fun x1 =>
 .pu (.fad 0 x1) fun x2 =>
 .rd (.ld false 1 x2) fun x3 =>
 .call 110 [x3] fun x4 =>
 .pu (.un .not x4) fun x5 =>
 .ite x5
 (.ret (.bool false))
 (.pu (.nck a0) fun x6 =>
 .pu (.fad 33 x6) fun x7 =>
 .rd (.ld false 1 x7) fun x8 =>
 .pu (.len x8) fun x9 =>
 .loop 0 [(.int .i64 0)] (fun u10 j11 =>
 .pu (.bin .lss (sl u10 0) x9) fun x12 =>
 .ite x12
 (.pu (.iad 2 x8 (sl u10 0)) fun x13 =>
 .rd (.ld true 2 x13) fun x14 =>
 .al (.nw 189 [(.int .i64 0), (.slice none 0 0)]) fun x15 =>
 .hv (.st 2 x15 x14) fun x16 =>
 .draw 2 (.pu (.fad 0 x15) fun x17 =>
 .rd (.ld false 1 x17) fun x18 =>
 .pu (.fad 1 x15) fun x19 =>
 .rd (.ld false 1 x19) fun x20 =>
 .pu (.nck a0) fun x21 =>
 .pu (.fad 1 x21) fun x22 =>
 .pu (.aad 32 1 x22 x18) fun x23 =>
 .fin 2 [x20, x23]) fun u24 j25 =>
 .hv (.st 1 (sl u24 1) (sl u24 0)) fun x26 =>
 .pu (.bin .add (sl u10 0) (.int .i64 1)) fun x27 =>
 .fin 0 [x27])
 (.fin 1 [(sl u10 0)])) fun u28 j29 =>
 .pu (.nck a0) fun x30 =>
 .pu (.fad 33 x30) fun x31 =>
 .hv (.st 1 x31 (.slice none 0 0)) fun x32 =>
 .pu (.nck a0) fun x33 =>
 .pu (.fad 34 x33) fun x34 =>
 .rd (.ld false 1 x34) fun x35 =>
 .pu (.bld [(.int .i64 0), (.slice none 0 0)] [(0, 1, (.int .i64 (-1)))]) fun x36 =>
 .al (.bsl 189 2 1 [(.int .i64 0), (.slice none 0 0)] [(0, 2, x36)]) fun x37 =>
 .hv (.app 189 2 32 [(.int .i64 0), (.slice none 0 0)] x35 x37) fun x38 =>
 .pu (.nck a0) fun x39 =>
 .pu (.fad 34 x39) fun x40 =>
 .hv (.st 1 x40 x38) fun x41 =>
 .ret (.bool true)))
theorem d60 : ∀ (a0 : Value) , denF en [(2006, [28, 31]), (3006, [0, 1, 2, 3, 4, 5, 6, 7]), (4006, [8]), (0, [20])] Tryz.f60 [a0] = t60 a0 := by intros; kernel_rfl
theorem c60 {ro : HP} {S : List Asrt} {Q : Value → List Asrt → Prop} (a0 : Value) (h : WT Tryz.prog en.hb (t60 a0) false ro S Q fun _ _ _ => False) : Tri Tryz.prog ro 60 ⟨[a0]⟩ S Q :=
 tri_of_tree en_ok en_mixed Tryz.func60 (by rw [d60]; exact h)

/-- (*lockbox/disk.Disk).Trace -/
def t61 (a0 : Value) : Tr :=
 .pu (.eqn .ptr false a0 (.pointer none)) fun x0 =>
 .ite x0
 (.ret (.slice none 0 0))
 (.pu (.nck a0) fun x1 =>
 .pu (.fad 34 x1) fun x2 =>
 .rd (.ld false 1 x2) fun x3 =>
 .pu (.len x3) fun x4 =>
 .loop 0 [(.slice none 0 0), (.int .i64 0)] (fun u5 j6 =>
 .pu (.bin .lss (sl u5 1) x4) fun x7 =>
 .ite x7
 (.pu (.iad 2 x3 (sl u5 1)) fun x8 =>
 .rd (.ld true 2 x8) fun x9 =>
 .al (.nw 189 [(.int .i64 0), (.slice none 0 0)]) fun x10 =>
 .hv (.st 2 x10 x9) fun x11 =>
 .draw 2 (.pu (.fad 0 x10) fun x12 =>
 .rd (.ld false 1 x12) fun x13 =>
 .pu (.fad 1 x10) fun x14 =>
 .rd (.ld false 1 x14) fun x15 =>
 .call 111 [x15] fun x16 =>
 .pu (.bld [(.int .i64 0), (.slice none 0 0)] [(0, 1, x13), (1, 1, x16)]) fun x17 =>
 .al (.bsl 189 2 1 [(.int .i64 0), (.slice none 0 0)] [(0, 2, x17)]) fun x18 =>
 .hv (.app 189 2 32 [(.int .i64 0), (.slice none 0 0)] (sl u5 0) x18) fun x19 =>
 .fin 2 [x19]) fun u20 j21 =>
 .pu (.bin .add (sl u5 1) (.int .i64 1)) fun x22 =>
 .fin 0 [(sl u20 0), x22])
 (.fin 1 [(sl u5 0), (sl u5 1)])) fun u23 j24 =>
 .ret (sl u23 0))
theorem d61 : ∀ (a0 : Value) , denF en [(2007, [3]), (0, [3, 13])] Tryz.f61 [a0] = t61 a0 := by intros; kernel_rfl
theorem c61 {ro : HP} {S : List Asrt} {Q : Value → List Asrt → Prop} (a0 : Value) (h : WT Tryz.prog en.hb (t61 a0) false ro S Q fun _ _ _ => False) : Tri Tryz.prog ro 61 ⟨[a0]⟩ S Q :=
 tri_of_tree en_ok en_mixed Tryz.func61 (by rw [d61]; exact h)

/-- (*lockbox/disk.Disk).Refuse -/
def t63 (a0 a1 : Value) : Tr :=
 .pu (.eqn .ptr true a0 (.pointer none)) fun x0 =>
 .ite x0
 (.pu (.nck a0) fun x1 =>
 .pu (.fad 35 x1) fun x2 =>
 .hv (.st 1 x2 a1) fun x3 =>
 .ret (.tuple #[]))
 (.ret (.tuple #[]))
theorem d63 : ∀ (a0 a1 : Value) , denF en [] Tryz.f63 [a0, a1] = t63 a0 a1 := by intros; kernel_rfl
theorem c63 {ro : HP} {S : List Asrt} {Q : Value → List Asrt → Prop} (a0 a1 : Value) (h : WT Tryz.prog en.hb (t63 a0 a1) false ro S Q fun _ _ _ => False) : Tri Tryz.prog ro 63 ⟨[a0, a1]⟩ S Q :=
 tri_of_tree en_ok en_mixed Tryz.func63 (by rw [d63]; exact h)

/-- (*lockbox/power.Power).Steps -/
def t65 (a0 : Value) : Tr :=
 .pu (.eqn .ptr false a0 (.pointer none)) fun x0 =>
 .ite x0
 (.ret (.int .i64 0))
 (.pu (.nck a0) fun x1 =>
 .pu (.fad 3 x1) fun x2 =>
 .rd (.ld false 1 x2) fun x3 =>
 .ret x3)
theorem d65 : ∀ (a0 : Value) , denF en [] Tryz.f65 [a0] = t65 a0 := by intros; kernel_rfl
theorem c65 {ro : HP} {S : List Asrt} {Q : Value → List Asrt → Prop} (a0 : Value) (h : WT Tryz.prog en.hb (t65 a0) false ro S Q fun _ _ _ => False) : Tri Tryz.prog ro 65 ⟨[a0]⟩ S Q :=
 tri_of_tree en_ok en_mixed Tryz.func65 (by rw [d65]; exact h)

/-- (*lockbox/ssd.SSD).Trace -/
def t79 (a0 : Value) : Tr :=
 .pu (.eqn .ptr false a0 (.pointer none)) fun x0 =>
 .ite x0
 (.ret (.slice none 0 0))
 (.pu (.nck a0) fun x1 =>
 .pu (.fad 3 x1) fun x2 =>
 .rd (.ld false 1 x2) fun x3 =>
 .pu (.len x3) fun x4 =>
 .loop 0 [(.slice none 0 0), (.int .i64 0)] (fun u5 j6 =>
 .pu (.bin .lss (sl u5 1) x4) fun x7 =>
 .ite x7
 (.pu (.iad 2 x3 (sl u5 1)) fun x8 =>
 .rd (.ld true 2 x8) fun x9 =>
 .al (.nw 189 [(.int .i64 0), (.slice none 0 0)]) fun x10 =>
 .hv (.st 2 x10 x9) fun x11 =>
 .rd (.ld true 2 x10) fun x12 =>
 .call 149 [x12] fun x13 =>
 .al (.bsl 189 2 1 [(.int .i64 0), (.slice none 0 0)] [(0, 2, x13)]) fun x14 =>
 .hv (.app 189 2 32 [(.int .i64 0), (.slice none 0 0)] (sl u5 0) x14) fun x15 =>
 .pu (.bin .add (sl u5 1) (.int .i64 1)) fun x16 =>
 .fin 0 [x15, x16])
 (.fin 1 [(sl u5 0), (sl u5 1)])) fun u17 j18 =>
 .ret (sl u17 0))
theorem d79 : ∀ (a0 : Value) , denF en [(0, [3, 13])] Tryz.f79 [a0] = t79 a0 := by intros; kernel_rfl
theorem c79 {ro : HP} {S : List Asrt} {Q : Value → List Asrt → Prop} (a0 : Value) (h : WT Tryz.prog en.hb (t79 a0) false ro S Q fun _ _ _ => False) : Tri Tryz.prog ro 79 ⟨[a0]⟩ S Q :=
 tri_of_tree en_ok en_mixed Tryz.func79 (by rw [d79]; exact h)

/-- lockbox/geom.Is -/
def t91 (a0 : Value) : Tr :=
 .pu (.bin .eql a0 (.int .i64 4)) fun x0 =>
 .ite x0
 (.ret (.bool true))
 (.pu (.bin .eql a0 (.int .i64 8)) fun x1 =>
 .ite x1
 (.ret (.bool true))
 (.pu (.bin .eql a0 (.int .i64 16)) fun x2 =>
 .ret x2))
theorem d91 : ∀ (a0 : Value) , denF en [] Tryz.f91 [a0] = t91 a0 := by intros; kernel_rfl
theorem c91 {ro : HP} {S : List Asrt} {Q : Value → List Asrt → Prop} (a0 : Value) (h : WT Tryz.prog en.hb (t91 a0) false ro S Q fun _ _ _ => False) : Tri Tryz.prog ro 91 ⟨[a0]⟩ S Q :=
 tri_of_tree en_ok en_mixed Tryz.func91 (by rw [d91]; exact h)

/-- lockbox/power.New -/
def t92 : Tr :=
 .pu (.bld [(.bool false), (.bool false), (.int .i64 0), (.int .i64 0)] []) fun x0 =>
 .al (.bx 184 x0) fun x1 =>
 .ret x1
theorem d92 : denF en [] Tryz.f92 [] = t92  := by intros; kernel_rfl
theorem c92 {ro : HP} {S : List Asrt} {Q : Value → List Asrt → Prop} (h : WT Tryz.prog en.hb (t92 ) false ro S Q fun _ _ _ => False) : Tri Tryz.prog ro 92 ⟨[]⟩ S Q :=
 tri_of_tree en_ok en_mixed Tryz.func92 (by rw [d92]; exact h)

/-- lockbox/lock.Real -/
def t93 : Tr :=
 .pu (.bld [.nilFunc, .nilFunc, .nilFunc, .nilFunc, .nilFunc] [(0, 1, (.func (.func 161) ⟨[]⟩ ⟨[]⟩)), (1, 1, (.func (.func 162) ⟨[]⟩ ⟨[]⟩)), (2, 1, (.func (.func 163) ⟨[]⟩ ⟨[]⟩)), (3, 1, (.func (.func 164) ⟨[(.pointer none)]⟩ ⟨[]⟩)), (4, 1, (.func (.func 165) ⟨[(.pointer none)]⟩ ⟨[]⟩))]) fun x0 =>
 .al (.bx 248 x0) fun x1 =>
 .ret x1
theorem d93 : denF en [] Tryz.f93 [] = t93  := by intros; kernel_rfl
theorem c93 {ro : HP} {S : List Asrt} {Q : Value → List Asrt → Prop} (h : WT Tryz.prog en.hb (t93 ) false ro S Q fun _ _ _ => False) : Tri Tryz.prog ro 93 ⟨[]⟩ S Q :=
 tri_of_tree en_ok en_mixed Tryz.func93 (by rw [d93]; exact h)

/-- lockbox/lock.Ideal -/
def t94 : Tr :=
 .call 166 [] fun x0 =>
 .pu (.bld [.nilFunc, .nilFunc, .nilFunc, .nilFunc, .nilFunc] [(0, 1, (.func (.func 167) ⟨[x0]⟩ ⟨[]⟩)), (1, 1, (.func (.func 168) ⟨[x0]⟩ ⟨[]⟩)), (2, 1, (.func (.func 169) ⟨[x0]⟩ ⟨[]⟩)), (3, 1, (.func (.func 164) ⟨[x0]⟩ ⟨[]⟩)), (4, 1, (.func (.func 165) ⟨[x0]⟩ ⟨[]⟩))]) fun x1 =>
 .al (.bx 248 x1) fun x2 =>
 .ret x2
theorem d94 : denF en [] Tryz.f94 [] = t94  := by intros; kernel_rfl
theorem c94 {ro : HP} {S : List Asrt} {Q : Value → List Asrt → Prop} (h : WT Tryz.prog en.hb (t94 ) false ro S Q fun _ _ _ => False) : Tri Tryz.prog ro 94 ⟨[]⟩ S Q :=
 tri_of_tree en_ok en_mixed Tryz.func94 (by rw [d94]; exact h)

/-- lockbox/ssd.New -/
def t95 (a0 a1 : Value) : Tr :=
 .pu (.bin .lss a0 (.int .i64 0)) fun x0 =>
 .ite x0
 (.ret (.pointer none))
 (.pu (.bin .gtr a0 (.int .i64 65536)) fun x1 =>
 .ite x1
 (.ret (.pointer none))
 (.al (.mks 5 1 1 [(.int .u8 0)] a0 a0) fun x2 =>
 .pu (.bld [(.pointer none), (.slice none 0 0), (.slice none 0 0), (.slice none 0 0)] [(0, 1, a1), (1, 1, x2)]) fun x3 =>
 .al (.bx 187 x3) fun x4 =>
 .ret x4))
theorem d95 : ∀ (a0 a1 : Value) , denF en [] Tryz.f95 [a0, a1] = t95 a0 a1 := by intros; kernel_rfl
theorem c95 {ro : HP} {S : List Asrt} {Q : Value → List Asrt → Prop} (a0 a1 : Value) (h : WT Tryz.prog en.hb (t95 a0 a1) false ro S Q fun _ _ _ => False) : Tri Tryz.prog ro 95 ⟨[a0, a1]⟩ S Q :=
 tri_of_tree en_ok en_mixed Tryz.func95 (by rw [d95]; exact h)

/-- (lockbox/geom.Geom).Size -/
def t96 (a0 : Value) : Tr :=
 .al (.bx 39 a0) fun x0 =>
 .pu (.fad 0 x0) fun x1 =>
 .rd (.ld false 1 x1) fun x2 =>
 .call 91 [x2] fun x3 =>
 .pu (.un .not x3) fun x4 =>
 .ite x4
 (.ret (.int .i64 0))
 (.rd (.ld true 1 x0) fun x5 =>
 .call 170 [x5, (.int .i64 1)] fun x6 =>
 .pu (.bin .add x6 (.int .i64 60)) fun x7 =>
 .ret x7)
theorem d96 : ∀ (a0 : Value) , denF en [] Tryz.f96 [a0] = t96 a0 := by intros; kernel_rfl
theorem c96 {ro : HP} {S : List Asrt} {Q : Value → List Asrt → Prop} (a0 : Value) (h : WT Tryz.prog en.hb (t96 a0) false ro S Q fun _ _ _ => False) : Tri Tryz.prog ro 96 ⟨[a0]⟩ S Q :=
 tri_of_tree en_ok en_mixed Tryz.func96 (by rw [d96]; exact h)

/-- lockbox/disk.New -/
def t97 (a0 : Value) : Tr :=
 .pu (.bld [(.pointer none), (.slice none 0 0), (.slice none 0 0), (.slice none 0 0), (.slice none 0 0), (.slice none 0 0), (.slice none 0 0), (.slice none 0 0), (.slice none 0 0), (.slice none 0 0), (.slice none 0 0), (.slice none 0 0), (.slice none 0 0), (.slice none 0 0), (.slice none 0 0), (.slice none 0 0), (.slice none 0 0), (.slice none 0 0), (.slice none 0 0), (.slice none 0 0), (.slice none 0 0), (.slice none 0 0), (.slice none 0 0), (.slice none 0 0), (.slice none 0 0), (.slice none 0 0), (.slice none 0 0), (.slice none 0 0), (.slice none 0 0), (.slice none 0 0), (.slice none 0 0), (.slice none 0 0), (.slice none 0 0), (.slice none 0 0), (.slice none 0 0), (.bool false)] [(0, 1, a0)]) fun x0 =>
 .al (.bx 207 x0) fun x1 =>
 .loop 0 [(.int .i64 0)] (fun u2 j3 =>
 .pu (.bin .lss (sl u2 0) (.int .i64 32)) fun x4 =>
 .ite x4
 (.draw 2 (.al (.mks 5 1 1 [(.int .u8 0)] (.int .i64 32) (.int .i64 32)) fun x5 =>
 .pu (.nck x1) fun x6 =>
 .pu (.fad 1 x6) fun x7 =>
 .pu (.aad 32 1 x7 (sl u2 0)) fun x8 =>
 .fin 2 [x5, x8]) fun u9 j10 =>
 .hv (.st 1 (sl u9 1) (sl u9 0)) fun x11 =>
 .pu (.bin .add (sl u2 0) (.int .i64 1)) fun x12 =>
 .fin 0 [x12])
 (.fin 1 [(sl u2 0)])) fun u13 j14 =>
 .ret x1
theorem d97 : ∀ (a0 : Value) , denF en [(2005, [13, 16]), (3005, [0, 1, 2, 3, 4, 5]), (4005, [6]), (0, [8])] Tryz.f97 [a0] = t97 a0 := by intros; kernel_rfl
theorem c97 {ro : HP} {S : List Asrt} {Q : Value → List Asrt → Prop} (a0 : Value) (h : WT Tryz.prog en.hb (t97 a0) false ro S Q fun _ _ _ => False) : Tri Tryz.prog ro 97 ⟨[a0]⟩ S Q :=
 tri_of_tree en_ok en_mixed Tryz.func97 (by rw [d97]; exact h)

/-- lockbox/count.New -/
def t98 (a0 : Value) : Tr :=
 .pu (.bld [(.pointer none), (.int .u64 0), (.int .u64 0), (.int .u64 0)] [(0, 1, a0)]) fun x0 =>
 .al (.bx 182 x0) fun x1 =>
 .ret x1
theorem d98 : ∀ (a0 : Value) , denF en [] Tryz.f98 [a0] = t98 a0 := by intros; kernel_rfl
theorem c98 {ro : HP} {S : List Asrt} {Q : Value → List Asrt → Prop} (a0 : Value) (h : WT Tryz.prog en.hb (t98 a0) false ro S Q fun _ _ _ => False) : Tri Tryz.prog ro 98 ⟨[a0]⟩ S Q :=
 tri_of_tree en_ok en_mixed Tryz.func98 (by rw [d98]; exact h)

/-- lockbox/keys.New -/
def t99 (a0 a1 : Value) : Tr :=
 .al (.bsl 84 1 1 [(.int .u32 0)] [(0, 1, (.int .u32 1))]) fun x0 =>
 .pu (.bld [(.pointer none), (.int .u64 0), (.slice none 0 0)] [(0, 1, a1), (1, 1, a0), (2, 1, x0)]) fun x1 =>
 .al (.bx 204 x1) fun x2 =>
 .ret x2
theorem d99 : ∀ (a0 a1 : Value) , denF en [] Tryz.f99 [a0, a1] = t99 a0 a1 := by intros; kernel_rfl
theorem c99 {ro : HP} {S : List Asrt} {Q : Value → List Asrt → Prop} (a0 a1 : Value) (h : WT Tryz.prog en.hb (t99 a0 a1) false ro S Q fun _ _ _ => False) : Tri Tryz.prog ro 99 ⟨[a0, a1]⟩ S Q :=
 tri_of_tree en_ok en_mixed Tryz.func99 (by rw [d99]; exact h)

/-- lockbox/area.Write -/
def t100 (a0 a1 a2 : Value) : Tr :=
 .al (.nw 90 [(.int .u64 0), (.int .u64 0)]) fun x0 =>
 .call 171 [a0, a1] fun x1 =>
 .pu (.un .not x1) fun x2 =>
 .ite x2
 (.pu (.bld [(.int .u64 0), (.int .u64 0)] []) fun x3 =>
 .hv (.st 2 x0 x3) fun x4 =>
 .rd (.ld true 2 x0) fun x5 =>
 .ret (.tuple ⟨[x5, (.int .i64 1)]⟩))
 (.pu (.len a2) fun x6 =>
 .pu (.nck a0) fun x7 =>
 .pu (.fad 0 x7) fun x8 =>
 .pu (.fad 0 x8) fun x9 =>
 .rd (.ld false 1 x9) fun x10 =>
 .pu (.bin .neq x6 x10) fun x11 =>
 .ite x11
 (.pu (.bld [(.int .u64 0), (.int .u64 0)] []) fun x12 =>
 .hv (.st 2 x0 x12) fun x13 =>
 .rd (.ld true 2 x0) fun x14 =>
 .ret (.tuple ⟨[x14, (.int .i64 1)]⟩))
 (.pu (.len a2) fun x15 =>
 .loop 0 [(.slice none 0 0), (.slice none 0 0), (.int .i64 0)] (fun u16 j17 =>
 .pu (.bin .lss (sl u16 2) x15) fun x18 =>
 .ite x18
 (.pu (.iad 8 a2 (sl u16 2)) fun x19 =>
 .rd (.ld true 8 x19) fun x20 =>
 .al (.nw 92 [(.int .i64 0), (.bool false), (.int .i64 0), (.int .u32 0), (.int .u32 0), (.int .u64 0), (.int .u64 0), (.int .u64 0)]) fun x21 =>
 .hv (.st 8 x21 x20) fun x22 =>
 .rd (.ld true 8 x21) fun x23 =>
 .call 172 [x23, (sl u16 2)] fun x24 =>
 .pu (.ext x24 0) fun x25 =>
 .pu (.ext x24 1) fun x26 =>
 .pu (.un .not x26) fun x27 =>
 .ite x27
 (.pu (.bld [(.int .u64 0), (.int .u64 0)] []) fun x28 =>
 .hv (.st 2 x0 x28) fun x29 =>
 .rd (.ld true 2 x0) fun x30 =>
 .ret (.tuple ⟨[x30, (.int .i64 1)]⟩))
 (.al (.bsl 55 1 1 [(.slice none 0 0)] [(0, 1, x25)]) fun x31 =>
 .hv (.app 55 1 24 [(.slice none 0 0)] (sl u16 0) x31) fun x32 =>
 .hv (.app 5 1 1 [(.int .u8 0)] (sl u16 1) x25) fun x33 =>
 .pu (.bin .add (sl u16 2) (.int .i64 1)) fun x34 =>
 .fin 0 [x32, x33, x34]))
 (.fin 1 [(sl u16 0), (sl u16 1), (sl u16 2)])) fun u35 j36 =>
 .pu (.nck a0) fun x37 =>
 .pu (.fad 6 x37) fun x38 =>
 .rd (.ld false 1 x38) fun x39 =>
 .call 173 [x39, (sl u35 0)] fun x40 =>
 .pu (.ext x40 0) fun x41 =>
 .pu (.ext x40 1) fun x42 =>
 .pu (.len x41) fun x43 =>
 .loop 0 [(.slice none 0 0), (.int .i64 0)] (fun u44 j45 =>
 .pu (.bin .lss (sl u44 1) x43) fun x46 =>
 .ite x46
 (.pu (.iad 2 x41 (sl u44 1)) fun x47 =>
 .rd (.ld true 2 x47) fun x48 =>
 .al (.nw 90 [(.int .u64 0), (.int .u64 0)]) fun x49 =>
 .hv (.st 2 x49 x48) fun x50 =>
 .rd (.ld true 2 x49) fun x51 =>
 .call 174 [x51] fun x52 =>
 .hv (.app 5 1 1 [(.int .u8 0)] (sl u44 0) x52) fun x53 =>
 .pu (.bin .add (sl u44 1) (.int .i64 1)) fun x54 =>
 .fin 0 [x53, x54])
 (.fin 1 [(sl u44 0), (sl u44 1)])) fun u55 j56 =>
 .draw 0 (.pu (.nck a0) fun x57 =>
 .pu (.fad 2 x57) fun x58 =>
 .rd (.ld false 1 x58) fun x59 =>
 .pu (.nck a0) fun x60 =>
 .pu (.fad 0 x60) fun x61 =>
 .rd (.ld true 1 x61) fun x62 =>
 .call 176 [x62, a1, (.int .i64 0)] fun x63 =>
 .call 175 [x59, x63, (sl u35 1)] fun x64 =>
 .pu (.un .not x64) fun x65 =>
 .ite x65
 (.fin 0 [(.bool true)])
 (.pu (.nck a0) fun x66 =>
 .pu (.fad 2 x66) fun x67 =>
 .rd (.ld false 1 x67) fun x68 =>
 .pu (.nck a0) fun x69 =>
 .pu (.fad 0 x69) fun x70 =>
 .rd (.ld true 1 x70) fun x71 =>
 .call 177 [x71, a1, (.int .i64 0)] fun x72 =>
 .call 175 [x68, x72, (sl u55 0)] fun x73 =>
 .pu (.un .not x73) fun x74 =>
 .fin 0 [x74])) fun u75 j76 =>
 .ite (sl u75 0)
 (.pu (.bld [(.int .u64 0), (.int .u64 0)] []) fun x77 =>
 .hv (.st 2 x0 x77) fun x78 =>
 .rd (.ld true 2 x0) fun x79 =>
 .ret (.tuple ⟨[x79, (.int .i64 7)]⟩))
 (.pu (.iad 2 x41 (.int .i64 1)) fun x80 =>
 .rd (.ld true 2 x80) fun x81 =>
 .hv (.st 2 x0 x81) fun x82 =>
 .rd (.ld true 2 x0) fun x83 =>
 .ret (.tuple ⟨[x83, (.int .i64 0)]⟩))))
theorem d100 : ∀ (a0 a1 a2 : Value) , denF en [(0, [8, 9, 36]), (2, [10, 69]), (2019, [105])] Tryz.f100 [a0, a1, a2] = t100 a0 a1 a2 := by intros; kernel_rfl
theorem c100 {ro : HP} {S : List Asrt} {Q : Value → List Asrt → Prop} (a0 a1 a2 : Value) (h : WT Tryz.prog en.hb (t100 a0 a1 a2) false ro S Q fun _ _ _ => False) : Tri Tryz.prog ro 100 ⟨[a0, a1, a2]⟩ S Q :=
 tri_of_tree en_ok en_mixed Tryz.func100 (by rw [d100]; exact h)

/-- (*lockbox/ssd.SSD).Barrier -/
def t101 (a0 : Value) : Tr :=
 .pu (.eqn .ptr false a0 (.pointer none)) fun x0 =>
 .ite x0
 (.ret (.bool false))
 (.pu (.nck a0) fun x1 =>
 .pu (.fad 0 x1) fun x2 =>
 .rd (.ld false 1 x2) fun x3 =>
 .call 110 [x3] fun x4 =>
 .pu (.un .not x4) fun x5 =>
 .ite x5
 (.ret (.bool false))
 (.call 114 [a0, (.func (.func 115) ⟨[]⟩ ⟨[]⟩)] fun x6 =>
 .pu (.nck a0) fun x7 =>
 .pu (.fad 3 x7) fun x8 =>
 .rd (.ld false 1 x8) fun x9 =>
 .pu (.bld [(.int .i64 0), (.slice none 0 0)] [(0, 1, (.int .i64 (-1)))]) fun x10 =>
 .al (.bsl 189 2 1 [(.int .i64 0), (.slice none 0 0)] [(0, 2, x10)]) fun x11 =>
 .hv (.app 189 2 32 [(.int .i64 0), (.slice none 0 0)] x9 x11) fun x12 =>
 .pu (.nck a0) fun x13 =>
 .pu (.fad 3 x13) fun x14 =>
 .hv (.st 1 x14 x12) fun x15 =>
 .ret (.bool true)))
theorem d101 : ∀ (a0 : Value) , denF en [] Tryz.f101 [a0] = t101 a0 := by intros; kernel_rfl
theorem c101 {ro : HP} {S : List Asrt} {Q : Value → List Asrt → Prop} (a0 : Value) (h : WT Tryz.prog en.hb (t101 a0) false ro S Q fun _ _ _ => False) : Tri Tryz.prog ro 101 ⟨[a0]⟩ S Q :=
 tri_of_tree en_ok en_mixed Tryz.func101 (by rw [d101]; exact h)

/-- lockbox/log.Put -/
def t102 (a0 a1 a2 : Value) : Tr :=
 .al (.bx 176 a2) fun x0 =>
 .rd (.ld true 5 x0) fun x1 =>
 .call 178 [x1] fun x2 =>
 .pu (.ext x2 0) fun x3 =>
 .pu (.ext x2 1) fun x4 =>
 .draw 0 (.pu (.eqn .ptr false a0 (.pointer none)) fun x5 =>
 .ite x5
 (.fin 0 [(.bool true)])
 (.pu (.un .not x4) fun x6 =>
 .ite x6
 (.fin 0 [(.bool true)])
 (.pu (.fad 2 x0) fun x7 =>
 .rd (.ld false 1 x7) fun x8 =>
 .pu (.nck a0) fun x9 =>
 .pu (.fad 0 x9) fun x10 =>
 .pu (.fad 0 x10) fun x11 =>
 .rd (.ld false 1 x11) fun x12 =>
 .pu (.bin .neq x8 x12) fun x13 =>
 .fin 0 [x13]))) fun u14 j15 =>
 .ite (sl u14 0)
 (.ret (.int .i64 1))
 (.call 179 [a0] fun x16 =>
 .pu (.ext x16 0) fun x17 =>
 .pu (.ext x16 1) fun x18 =>
 .al (.nw 90 [(.int .u64 0), (.int .u64 0)]) fun x19 =>
 .hv (.st 2 x19 x18) fun x20 =>
 .call 180 [a1, x17, (.int .i64 65535)] fun x21 =>
 .pu (.ext x21 0) fun x22 =>
 .pu (.ext x21 1) fun x23 =>
 .al (.nw 88 [(.int .u32 0), (.int .u32 0), (.int .u64 0)]) fun x24 =>
 .hv (.st 3 x24 x22) fun x25 =>
 .pu (.bin .neq x23 (.int .i64 0)) fun x26 =>
 .ite x26
 (.ret x23)
 (.draw 0 (.pu (.nck a0) fun x27 =>
 .pu (.fad 6 x27) fun x28 =>
 .rd (.ld false 1 x28) fun x29 =>
 .rd (.ld true 2 x19) fun x30 =>
 .rd (.ld true 3 x24) fun x31 =>
 .call 181 [x29, x30, x31, (.slice none 0 0), x3] fun x32 =>
 .pu (.ext x32 0) fun x33 =>
 .pu (.ext x32 1) fun x34 =>
 .al (.nw 235 [(.slice none 0 0), (.int .u64 0), (.int .u64 0)]) fun x35 =>
 .hv (.st 3 x35 x33) fun x36 =>
 .fin 0 [x35, x34]) fun u37 j38 =>
 .rd (.ld true 3 x24) fun x39 =>
 .rd (.ld true 3 (sl u37 0)) fun x40 =>
 .call 182 [x39, x40] fun x41 =>
 .pu (.ext x41 0) fun x42 =>
 .pu (.ext x41 1) fun x43 =>
 .draw 0 (.pu (.nck a0) fun x44 =>
 .pu (.fad 2 x44) fun x45 =>
 .rd (.ld false 1 x45) fun x46 =>
 .pu (.fad 0 x0) fun x47 =>
 .rd (.ld false 1 x47) fun x48 =>
 .call 183 [a0, x48] fun x49 =>
 .call 175 [x46, x49, x42] fun x50 =>
 .pu (.un .not x50) fun x51 =>
 .fin 0 [x51]) fun u52 j53 =>
 .ite (sl u52 0)
 (.ret (.int .i64 7))
 (.ret (.int .i64 0))))
theorem d102 : ∀ (a0 a1 a2 : Value) , denF en [(2002, [37]), (2008, [13, 62]), (3008, [0, 1, 2, 3, 4, 5, 6, 7, 8, 9, 10, 11, 12]), (4008, [13]), (2010, [79])] Tryz.f102 [a0, a1, a2] = t102 a0 a1 a2 := by intros; kernel_rfl
theorem c102 {ro : HP} {S : List Asrt} {Q : Value → List Asrt → Prop} (a0 a1 a2 : Value) (h : WT Tryz.prog en.hb (t102 a0 a1 a2) false ro S Q fun _ _ _ => False) : Tri Tryz.prog ro 102 ⟨[a0, a1, a2]⟩ S Q :=
 tri_of_tree en_ok en_mixed Tryz.func102 (by rw [d102]; exact h)

/-- (*lockbox/count.Counter).Bump -/
def t103 (a0 : Value) : Tr :=
 .pu (.eqn .ptr false a0 (.pointer none)) fun x0 =>
 .ite x0
 (.ret (.bool false))
 (.pu (.nck a0) fun x1 =>
 .pu (.fad 0 x1) fun x2 =>
 .rd (.ld false 1 x2) fun x3 =>
 .call 110 [x3] fun x4 =>
 .pu (.un .not x4) fun x5 =>
 .ite x5
 (.ret (.bool false))
 (.pu (.nck a0) fun x6 =>
 .pu (.fad 1 x6) fun x7 =>
 .rd (.ld false 1 x7) fun x8 =>
 .pu (.bin .add x8 (.int .u64 1)) fun x9 =>
 .pu (.nck a0) fun x10 =>
 .pu (.fad 1 x10) fun x11 =>
 .hv (.st 1 x11 x9) fun x12 =>
 .pu (.nck a0) fun x13 =>
 .pu (.fad 2 x13) fun x14 =>
 .rd (.ld false 1 x14) fun x15 =>
 .pu (.nck a0) fun x16 =>
 .pu (.fad 3 x16) fun x17 =>
 .hv (.st 1 x17 x15) fun x18 =>
 .ret (.bool true)))
theorem d103 : ∀ (a0 : Value) , denF en [] Tryz.f103 [a0] = t103 a0 := by intros; kernel_rfl
theorem c103 {ro : HP} {S : List Asrt} {Q : Value → List Asrt → Prop} (a0 : Value) (h : WT Tryz.prog en.hb (t103 a0) false ro S Q fun _ _ _ => False) : Tri Tryz.prog ro 103 ⟨[a0]⟩ S Q :=
 tri_of_tree en_ok en_mixed Tryz.func103 (by rw [d103]; exact h)

/-- (*lockbox/power.Power).On -/
def t104 (a0 : Value) : Tr :=
 .pu (.eqn .ptr true a0 (.pointer none)) fun x0 =>
 .ite x0
 (.pu (.nck a0) fun x1 =>
 .pu (.fad 0 x1) fun x2 =>
 .rd (.ld false 1 x2) fun x3 =>
 .pu (.un .not x3) fun x4 =>
 .ret x4)
 (.ret (.bool false))
theorem d104 : ∀ (a0 : Value) , denF en [] Tryz.f104 [a0] = t104 a0 := by intros; kernel_rfl
theorem c104 {ro : HP} {S : List Asrt} {Q : Value → List Asrt → Prop} (a0 : Value) (h : WT Tryz.prog en.hb (t104 a0) false ro S Q fun _ _ _ => False) : Tri Tryz.prog ro 104 ⟨[a0]⟩ S Q :=
 tri_of_tree en_ok en_mixed Tryz.func104 (by rw [d104]; exact h)

/-- lockbox/log.Get -/
def t105 (a0 a1 : Value) : Tr :=
 .al (.nw 176 [(.int .u64 0), (.int .u32 0), (.int .i64 0), (.int .u64 0), (.int .u64 0)]) fun x0 =>
 .pu (.eqn .ptr false a0 (.pointer none)) fun x1 =>
 .ite x1
 (.pu (.bld [(.int .u64 0), (.int .u32 0), (.int .i64 0), (.int .u64 0), (.int .u64 0)] []) fun x2 =>
 .hv (.st 5 x0 x2) fun x3 =>
 .rd (.ld true 5 x0) fun x4 =>
 .ret (.tuple ⟨[x4, (.int .i64 1)]⟩))
 (.draw 0 (.pu (.nck a0) fun x5 =>
 .pu (.fad 2 x5) fun x6 =>
 .rd (.ld false 1 x6) fun x7 =>
 .call 183 [a0, a1] fun x8 =>
 .call 184 [x7, x8, (.int .i64 60)] fun x9 =>
 .pu (.ext x9 0) fun x10 =>
 .pu (.ext x9 1) fun x11 =>
 .fin 0 [x10, x11]) fun u12 j13 =>
 .pu (.un .not (sl u12 1)) fun x14 =>
 .ite x14
 (.pu (.bld [(.int .u64 0), (.int .u32 0), (.int .i64 0), (.int .u64 0), (.int .u64 0)] []) fun x15 =>
 .hv (.st 5 x0 x15) fun x16 =>
 .rd (.ld true 5 x0) fun x17 =>
 .ret (.tuple ⟨[x17, (.int .i64 7)]⟩))
 (.call 185 [a0, (sl u12 0)] fun x18 =>
 .pu (.ext x18 0) fun x19 =>
 .pu (.ext x18 1) fun x20 =>
 .al (.nw 176 [(.int .u64 0), (.int .u32 0), (.int .i64 0), (.int .u64 0), (.int .u64 0)]) fun x21 =>
 .hv (.st 5 x21 x19) fun x22 =>
 .draw 0 (.pu (.un .not x20) fun x23 =>
 .ite x23
 (.fin 0 [(.bool true)])
 (.pu (.fad 0 x21) fun x24 =>
 .rd (.ld false 1 x24) fun x25 =>
 .pu (.bin .neq x25 a1) fun x26 =>
 .ite x26
 (.fin 0 [(.bool true)])
 (.pu (.fad 2 x21) fun x27 =>
 .rd (.ld false 1 x27) fun x28 =>
 .pu (.nck a0) fun x29 =>
 .pu (.fad 0 x29) fun x30 =>
 .pu (.fad 0 x30) fun x31 =>
 .rd (.ld false 1 x31) fun x32 =>
 .pu (.bin .neq x28 x32) fun x33 =>
 .fin 0 [x33]))) fun u34 j35 =>
 .ite (sl u34 0)
 (.pu (.bld [(.int .u64 0), (.int .u32 0), (.int .i64 0), (.int .u64 0), (.int .u64 0)] []) fun x36 =>
 .hv (.st 5 x0 x36) fun x37 =>
 .rd (.ld true 5 x0) fun x38 =>
 .ret (.tuple ⟨[x38, (.int .i64 3)]⟩))
 (.rd (.ld true 5 x21) fun x39 =>
 .hv (.st 5 x0 x39) fun x40 =>
 .rd (.ld true 5 x0) fun x41 =>
 .ret (.tuple ⟨[x41, (.int .i64 0)]⟩))))
theorem d105 : ∀ (a0 a1 : Value) , denF en [(2003, [6, 7]), (2007, [49])] Tryz.f105 [a0, a1] = t105 a0 a1 := by intros; kernel_rfl
theorem c105 {ro : HP} {S : List Asrt} {Q : Value → List Asrt → Prop} (a0 a1 : Value) (h : WT Tryz.prog en.hb (t105 a0 a1) false ro S Q fun _ _ _ => False) : Tri Tryz.prog ro 105 ⟨[a0, a1]⟩ S Q :=
 tri_of_tree en_ok en_mixed Tryz.func105 (by rw [d105]; exact h)

/-- lockbox/area.Read -/
def t106 (a0 a1 a2 : Value) : Tr :=
 .al (.bx 90 a2) fun x0 =>
 .call 171 [a0, a1] fun x1 =>
 .pu (.un .not x1) fun x2 =>
 .ite x2
 (.ret (.tuple ⟨[(.slice none 0 0), (.int .i64 1)]⟩))
 (.pu (.nck a0) fun x3 =>
 .pu (.fad 0 x3) fun x4 =>
 .pu (.fad 0 x4) fun x5 =>
 .rd (.ld false 1 x5) fun x6 =>
 .loop 0 [(.slice none 0 0), (.int .i64 0)] (fun u7 j8 =>
 .pu (.bin .lss (sl u7 1) x6) fun x9 =>
 .ite x9
 (.draw 2 (.pu (.nck a0) fun x10 =>
 .pu (.fad 2 x10) fun x11 =>
 .rd (.ld false 1 x11) fun x12 =>
 .pu (.nck a0) fun x13 =>
 .pu (.fad 0 x13) fun x14 =>
 .rd (.ld true 1 x14) fun x15 =>
 .call 176 [x15, a1, (sl u7 1)] fun x16 =>
 .call 184 [x12, x16, (.int .i64 32)] fun x17 =>
 .pu (.ext x17 0) fun x18 =>
 .pu (.ext x17 1) fun x19 =>
 .fin 2 [x18, x19]) fun u20 j21 =>
 .pu (.un .not (sl u20 1)) fun x22 =>
 .ite x22
 (.ret (.tuple ⟨[(.slice none 0 0), (.int .i64 7)]⟩))
 (.al (.bsl 55 1 1 [(.slice none 0 0)] [(0, 1, (sl u20 0))]) fun x23 =>
 .hv (.app 55 1 24 [(.slice none 0 0)] (sl u7 0) x23) fun x24 =>
 .pu (.bin .add (sl u7 1) (.int .i64 1)) fun x25 =>
 .fin 0 [x24, x25]))
 (.fin 1 [(sl u7 0), (sl u7 1)])) fun u26 j27 =>
 .pu (.nck a0) fun x28 =>
 .pu (.fad 6 x28) fun x29 =>
 .rd (.ld false 1 x29) fun x30 =>
 .call 173 [x30, (sl u26 0)] fun x31 =>
 .pu (.ext x31 0) fun x32 =>
 .pu (.ext x31 1) fun x33 =>
 .draw 0 (.pu (.un .not x33) fun x34 =>
 .ite x34
 (.fin 0 [(.bool true)])
 (.pu (.iad 2 x32 (.int .i64 1)) fun x35 =>
 .rd (.ld true 2 x35) fun x36 =>
 .rd (.ld true 2 x0) fun x37 =>
 .pu (.eqa true [some .u64, some .u64] x36 x37) fun x38 =>
 .fin 0 [x38])) fun u39 j40 =>
 .ite (sl u39 0)
 (.ret (.tuple ⟨[(.slice none 0 0), (.int .i64 3)]⟩))
 (.pu (.len (sl u26 0)) fun x41 =>
 .loop 0 [(.slice none 0 0), (.int .i64 0)] (fun u42 j43 =>
 .pu (.bin .lss (sl u42 1) x41) fun x44 =>
 .ite x44
 (.pu (.iad 1 (sl u26 0) (sl u42 1)) fun x45 =>
 .rd (.ld false 1 x45) fun x46 =>
 .call 186 [x46, (sl u42 1)] fun x47 =>
 .pu (.ext x47 0) fun x48 =>
 .pu (.ext x47 1) fun x49 =>
 .al (.nw 92 [(.int .i64 0), (.bool false), (.int .i64 0), (.int .u32 0), (.int .u32 0), (.int .u64 0), (.int .u64 0), (.int .u64 0)]) fun x50 =>
 .hv (.st 8 x50 x48) fun x51 =>
 .pu (.un .not x49) fun x52 =>
 .ite x52
 (.ret (.tuple ⟨[(.slice none 0 0), (.int .i64 3)]⟩))
 (.rd (.ld true 8 x50) fun x53 =>
 .al (.bsl 92 8 1 [(.int .i64 0), (.bool false), (.int .i64 0), (.int .u32 0), (.int .u32 0), (.int .u64 0), (.int .u64 0), (.int .u64 0)] [(0, 8, x53)]) fun x54 =>
 .hv (.app 92 8 56 [(.int .i64 0), (.bool false), (.int .i64 0), (.int .u32 0), (.int .u32 0), (.int .u64 0), (.int .u64 0), (.int .u64 0)] (sl u42 0) x54) fun x55 =>
 .pu (.bin .add (sl u42 1) (.int .i64 1)) fun x56 =>
 .fin 0 [x55, x56]))
 (.fin 1 [(sl u42 0), (sl u42 1)])) fun u57 j58 =>
 .ret (.tuple ⟨[(sl u57 0), (.int .i64 0)]⟩)))
theorem d106 : ∀ (a0 a1 a2 : Value) , denF en [(2007, [10, 11]), (0, [8, 28]), (2013, [70]), (2, [14, 73])] Tryz.f106 [a0, a1, a2] = t106 a0 a1 a2 := by intros; kernel_rfl
theorem c106 {ro : HP} {S : List Asrt} {Q : Value → List Asrt → Prop} (a0 a1 a2 : Value) (h : WT Tryz.prog en.hb (t106 a0 a1 a2) false ro S Q fun _ _ _ => False) : Tri Tryz.prog ro 106 ⟨[a0, a1, a2]⟩ S Q :=
 tri_of_tree en_ok en_mixed Tryz.func106 (by rw [d106]; exact h)

/-- (*lockbox/ssd.SSD).Crash -/
def t107 (a0 a1 : Value) : Tr :=
 .al (.bx 51 a1) fun x0 =>
 .pu (.eqn .ptr true a0 (.pointer none)) fun x1 =>
 .ite x1
 (.call 114 [a0, (.func (.func 187) ⟨[]⟩ ⟨[x0]⟩)] fun x2 =>
 .ret (.tuple #[]))
 (.ret (.tuple #[]))
theorem d107 : ∀ (a0 a1 : Value) , denF en [] Tryz.f107 [a0, a1] = t107 a0 a1 := by intros; kernel_rfl
theorem c107 {ro : HP} {S : List Asrt} {Q : Value → List Asrt → Prop} (a0 a1 : Value) (h : WT Tryz.prog en.hb (t107 a0 a1) false ro S Q fun _ _ _ => False) : Tri Tryz.prog ro 107 ⟨[a0, a1]⟩ S Q :=
 tri_of_tree en_ok en_mixed Tryz.func107 (by rw [d107]; exact h)

/-- (*lockbox/disk.Disk).Crash -/
def t108 (a0 a1 : Value) : Tr :=
 .pu (.eqn .ptr false a0 (.pointer none)) fun x0 =>
 .ite x0
 (.ret (.tuple #[]))
 (.pu (.nck a0) fun x1 =>
 .pu (.fad 33 x1) fun x2 =>
 .rd (.ld false 1 x2) fun x3 =>
 .pu (.len x3) fun x4 =>
 .loop 0 [(.int .i64 0)] (fun u5 j6 =>
 .pu (.bin .lss (sl u5 0) x4) fun x7 =>
 .ite x7
 (.join 2 (.pu (.iad 2 x3 (sl u5 0)) fun x8 =>
 .rd (.ld true 2 x8) fun x9 =>
 .al (.nw 189 [(.int .i64 0), (.slice none 0 0)]) fun x10 =>
 .hv (.st 2 x10 x9) fun x11 =>
 .pu (.len a1) fun x12 =>
 .pu (.bin .lss (sl u5 0) x12) fun x13 =>
 .ite x13
 (.pu (.iad 1 a1 (sl u5 0)) fun x14 =>
 .rd (.ld false 1 x14) fun x15 =>
 .ite x15
 (.draw 3 (.pu (.fad 0 x10) fun x16 =>
 .rd (.ld false 1 x16) fun x17 =>
 .pu (.fad 1 x10) fun x18 =>
 .rd (.ld false 1 x18) fun x19 =>
 .pu (.nck a0) fun x20 =>
 .pu (.fad 1 x20) fun x21 =>
 .pu (.aad 32 1 x21 x17) fun x22 =>
 .fin 3 [x19, x22]) fun u23 j24 =>
 .hv (.st 1 (sl u23 1) (sl u23 0)) fun x25 =>
 .fin 2 [])
 (.fin 2 []))
 (.fin 2 [])) fun u26 j27 =>
 .pu (.bin .add (sl u5 0) (.int .i64 1)) fun x28 =>
 .fin 0 [x28])
 (.fin 1 [(sl u5 0)])) fun u29 j30 =>
 .pu (.nck a0) fun x31 =>
 .pu (.fad 33 x31) fun x32 =>
 .hv (.st 1 x32 (.slice none 0 0)) fun x33 =>
 .ret (.tuple #[]))
theorem d108 : ∀ (a0 a1 : Value) , denF en [(2005, [32, 35]), (3005, [0, 1, 2, 3, 4, 5, 6, 7]), (4005, [8]), (1, []), (0, [13])] Tryz.f108 [a0, a1] = t108 a0 a1 := by intros; kernel_rfl
theorem c108 {ro : HP} {S : List Asrt} {Q : Value → List Asrt → Prop} (a0 a1 : Value) (h : WT Tryz.prog en.hb (t108 a0 a1) false ro S Q fun _ _ _ => False) : Tri Tryz.prog ro 108 ⟨[a0, a1]⟩ S Q :=
 tri_of_tree en_ok en_mixed Tryz.func108 (by rw [d108]; exact h)

/-- (*lockbox/power.Power).Back -/
def t109 (a0 : Value) : Tr :=
 .pu (.eqn .ptr true a0 (.pointer none)) fun x0 =>
 .ite x0
 (.pu (.nck a0) fun x1 =>
 .pu (.fad 0 x1) fun x2 =>
 .hv (.st 1 x2 (.bool false)) fun x3 =>
 .pu (.nck a0) fun x4 =>
 .pu (.fad 1 x4) fun x5 =>
 .hv (.st 1 x5 (.bool false)) fun x6 =>
 .ret (.tuple #[]))
 (.ret (.tuple #[]))
theorem d109 : ∀ (a0 : Value) , denF en [] Tryz.f109 [a0] = t109 a0 := by intros; kernel_rfl
theorem c109 {ro : HP} {S : List Asrt} {Q : Value → List Asrt → Prop} (a0 : Value) (h : WT Tryz.prog en.hb (t109 a0) false ro S Q fun _ _ _ => False) : Tri Tryz.prog ro 109 ⟨[a0]⟩ S Q :=
 tri_of_tree en_ok en_mixed Tryz.func109 (by rw [d109]; exact h)

/-- (*lockbox/power.Power).Spend -/
def t110 (a0 : Value) : Tr :=
 .call 104 [a0] fun x0 =>
 .pu (.un .not x0) fun x1 =>
 .ite x1
 (.ret (.bool false))
 (.pu (.nck a0) fun x2 =>
 .pu (.fad 1 x2) fun x3 =>
 .rd (.ld false 1 x3) fun x4 =>
 .ite x4
 (.pu (.nck a0) fun x5 =>
 .pu (.fad 2 x5) fun x6 =>
 .rd (.ld false 1 x6) fun x7 =>
 .pu (.bin .eql x7 (.int .i64 0)) fun x8 =>
 .ite x8
 (.pu (.nck a0) fun x9 =>
 .pu (.fad 0 x9) fun x10 =>
 .hv (.st 1 x10 (.bool true)) fun x11 =>
 .ret (.bool false))
 (.pu (.nck a0) fun x12 =>
 .pu (.fad 1 x12) fun x13 =>
 .rd (.ld false 1 x13) fun x14 =>
 .ite x14
 (.pu (.nck a0) fun x15 =>
 .pu (.fad 2 x15) fun x16 =>
 .rd (.ld false 1 x16) fun x17 =>
 .pu (.bin .sub x17 (.int .i64 1)) fun x18 =>
 .pu (.nck a0) fun x19 =>
 .pu (.fad 2 x19) fun x20 =>
 .hv (.st 1 x20 x18) fun x21 =>
 .pu (.nck a0) fun x22 =>
 .pu (.fad 3 x22) fun x23 =>
 .rd (.ld false 1 x23) fun x24 =>
 .pu (.bin .add x24 (.int .i64 1)) fun x25 =>
 .pu (.nck a0) fun x26 =>
 .pu (.fad 3 x26) fun x27 =>
 .hv (.st 1 x27 x25) fun x28 =>
 .ret (.bool true))
 (.pu (.nck a0) fun x29 =>
 .pu (.fad 3 x29) fun x30 =>
 .rd (.ld false 1 x30) fun x31 =>
 .pu (.bin .add x31 (.int .i64 1)) fun x32 =>
 .pu (.nck a0) fun x33 =>
 .pu (.fad 3 x33) fun x34 =>
 .hv (.st 1 x34 x32) fun x35 =>
 .ret (.bool true))))
 (.pu (.nck a0) fun x36 =>
 .pu (.fad 1 x36) fun x37 =>
 .rd (.ld false 1 x37) fun x38 =>
 .ite x38
 (.pu (.nck a0) fun x39 =>
 .pu (.fad 2 x39) fun x40 =>
 .rd (.ld false 1 x40) fun x41 =>
 .pu (.bin .sub x41 (.int .i64 1)) fun x42 =>
 .pu (.nck a0) fun x43 =>
 .pu (.fad 2 x43) fun x44 =>
 .hv (.st 1 x44 x42) fun x45 =>
 .pu (.nck a0) fun x46 =>
 .pu (.fad 3 x46) fun x47 =>
 .rd (.ld false 1 x47) fun x48 =>
 .pu (.bin .add x48 (.int .i64 1)) fun x49 =>
 .pu (.nck a0) fun x50 =>
 .pu (.fad 3 x50) fun x51 =>
 .hv (.st 1 x51 x49) fun x52 =>
 .ret (.bool true))
 (.pu (.nck a0) fun x53 =>
 .pu (.fad 3 x53) fun x54 =>
 .rd (.ld false 1 x54) fun x55 =>
 .pu (.bin .add x55 (.int .i64 1)) fun x56 =>
 .pu (.nck a0) fun x57 =>
 .pu (.fad 3 x57) fun x58 =>
 .hv (.st 1 x58 x56) fun x59 =>
 .ret (.bool true))))
theorem d110 : ∀ (a0 : Value) , denF en [] Tryz.f110 [a0] = t110 a0 := by intros; kernel_rfl
theorem c110 {ro : HP} {S : List Asrt} {Q : Value → List Asrt → Prop} (a0 : Value) (h : WT Tryz.prog en.hb (t110 a0) false ro S Q fun _ _ _ => False) : Tri Tryz.prog ro 110 ⟨[a0]⟩ S Q :=
 tri_of_tree en_ok en_mixed Tryz.func110 (by rw [d110]; exact h)

/-- bytes.Clone -/
def t111 (a0 : Value) : Tr :=
 .pu (.eqn .slc false a0 (.slice none 0 0)) fun x0 =>
 .ite x0
 (.ret (.slice none 0 0))
 (.al (.bsl 5 1 0 [(.int .u8 0)] []) fun x1 =>
 .hv (.app 5 1 1 [(.int .u8 0)] x1 a0) fun x2 =>
 .ret x2)
theorem d111 : ∀ (a0 : Value) , denF en [] Tryz.f111 [a0] = t111 a0 := by intros; kernel_rfl
theorem c111 {ro : HP} {S : List Asrt} {Q : Value → List Asrt → Prop} (a0 : Value) (h : WT Tryz.prog en.hb (t111 a0) false ro S Q fun _ _ _ => False) : Tri Tryz.prog ro 111 ⟨[a0]⟩ S Q :=
 tri_of_tree en_ok en_mixed Tryz.func111 (by rw [d111]; exact h)

/-- (*lockbox/ssd.SSD).Size -/
def t112 (a0 : Value) : Tr :=
 .pu (.eqn .ptr false a0 (.pointer none)) fun x0 =>
 .ite x0
 (.ret (.int .i64 0))
 (.pu (.nck a0) fun x1 =>
 .pu (.fad 1 x1) fun x2 =>
 .rd (.ld false 1 x2) fun x3 =>
 .pu (.len x3) fun x4 =>
 .ret x4)
theorem d112 : ∀ (a0 : Value) , denF en [] Tryz.f112 [a0] = t112 a0 := by intros; kernel_rfl
theorem c112 {ro : HP} {S : List Asrt} {Q : Value → List Asrt → Prop} (a0 : Value) (h : WT Tryz.prog en.hb (t112 a0) false ro S Q fun _ _ _ => False) : Tri Tryz.prog ro 112 ⟨[a0]⟩ S Q :=
 tri_of_tree en_ok en_mixed Tryz.func112 (by rw [d112]; exact h)

/-- (*lockbox/ssd.SSD).is -/
def t113 (a0 a1 a2 : Value) : Tr :=
 .pu (.eqn .ptr true a0 (.pointer none)) fun x0 =>
 .ite x0
 (.pu (.bin .geq a1 (.int .i64 0)) fun x1 =>
 .ite x1
 (.pu (.bin .geq a2 (.int .i64 0)) fun x2 =>
 .ite x2
 (.call 112 [a0] fun x3 =>
 .pu (.bin .leq a1 x3) fun x4 =>
 .ite x4
 (.call 112 [a0] fun x5 =>
 .pu (.bin .sub x5 a1) fun x6 =>
 .pu (.bin .leq a2 x6) fun x7 =>
 .ret x7)
 (.ret (.bool false)))
 (.ret (.bool false)))
 (.ret (.bool false)))
 (.ret (.bool false))
theorem d113 : ∀ (a0 a1 a2 : Value) , denF en [] Tryz.f113 [a0, a1, a2] = t113 a0 a1 a2 := by intros; kernel_rfl
theorem c113 {ro : HP} {S : List Asrt} {Q : Value → List Asrt → Prop} (a0 a1 a2 : Value) (h : WT Tryz.prog en.hb (t113 a0 a1 a2) false ro S Q fun _ _ _ => False) : Tri Tryz.prog ro 113 ⟨[a0, a1, a2]⟩ S Q :=
 tri_of_tree en_ok en_mixed Tryz.func113 (by rw [d113]; exact h)

/-- (*lockbox/ssd.SSD).settles -/
def t114 (a0 a1 : Value) : Tr :=
 .pu (.nck a0) fun x0 =>
 .pu (.fad 2 x0) fun x1 =>
 .rd (.ld false 1 x1) fun x2 =>
 .pu (.len x2) fun x3 =>
 .loop 0 [(.int .i64 0)] (fun u4 j5 =>
 .pu (.bin .lss (sl u4 0) x3) fun x6 =>
 .ite x6
 (.join 2 (.pu (.iad 2 x2 (sl u4 0)) fun x7 =>
 .rd (.ld true 2 x7) fun x8 =>
 .al (.nw 189 [(.int .i64 0), (.slice none 0 0)]) fun x9 =>
 .hv (.st 2 x9 x8) fun x10 =>
 .callv a1 [(sl u4 0)] fun x11 =>
 .ite x11
 (.draw 3 (.pu (.nck a0) fun x12 =>
 .pu (.fad 1 x12) fun x13 =>
 .rd (.ld false 1 x13) fun x14 =>
 .pu (.fad 0 x9) fun x15 =>
 .rd (.ld false 1 x15) fun x16 =>
 .pu (.slc 1 x14 (some x16) none none) fun x17 =>
 .pu (.fad 1 x9) fun x18 =>
 .rd (.ld false 1 x18) fun x19 =>
 .hv (.cpy 1 x17 x19) fun x20 =>
 .fin 3 []) fun u21 j22 =>
 .fin 2 [])
 (.fin 2 [])) fun u23 j24 =>
 .pu (.bin .add (sl u4 0) (.int .i64 1)) fun x25 =>
 .fin 0 [x25])
 (.fin 1 [(sl u4 0)])) fun u26 j27 =>
 .pu (.nck a0) fun x28 =>
 .pu (.fad 2 x28) fun x29 =>
 .hv (.st 1 x29 (.slice none 0 0)) fun x30 =>
 .ret (.tuple #[])
theorem d114 : ∀ (a0 a1 : Value) , denF en [(2004, []), (1, []), (0, [11])] Tryz.f114 [a0, a1] = t114 a0 a1 := by intros; kernel_rfl
theorem c114 {ro : HP} {S : List Asrt} {Q : Value → List Asrt → Prop} (a0 a1 : Value) (h : WT Tryz.prog en.hb (t114 a0 a1) false ro S Q fun _ _ _ => False) : Tri Tryz.prog ro 114 ⟨[a0, a1]⟩ S Q :=
 tri_of_tree en_ok en_mixed Tryz.func114 (by rw [d114]; exact h)

/-- lockbox/ssd.all -/
def t115 (a0 : Value) : Tr :=
 .ret (.bool true)
theorem d115 : ∀ (a0 : Value) , denF en [] Tryz.f115 [a0] = t115 a0 := by intros; kernel_rfl
theorem c115 {ro : HP} {S : List Asrt} {Q : Value → List Asrt → Prop} (a0 : Value) (h : WT Tryz.prog en.hb (t115 a0) false ro S Q fun _ _ _ => False) : Tri Tryz.prog ro 115 ⟨[a0]⟩ S Q :=
 tri_of_tree en_ok en_mixed Tryz.func115 (by rw [d115]; exact h)

/-- bytes.Equal -/
def t118 (a0 a1 : Value) : Tr :=
 .rd (.b2s a0) fun x0 =>
 .rd (.b2s a1) fun x1 =>
 .pu (.bin .eql x0 x1) fun x2 =>
 .ret x2
theorem d118 : ∀ (a0 a1 : Value) , denF en [] Tryz.f118 [a0, a1] = t118 a0 a1 := by intros; kernel_rfl
theorem c118 {ro : HP} {S : List Asrt} {Q : Value → List Asrt → Prop} (a0 a1 : Value) (h : WT Tryz.prog en.hb (t118 a0 a1) false ro S Q fun _ _ _ => False) : Tri Tryz.prog ro 118 ⟨[a0, a1]⟩ S Q :=
 tri_of_tree en_ok en_mixed Tryz.func118 (by rw [d118]; exact h)

/-- (*lockbox/disk.Disk).is -/
def t129 (a0 a1 : Value) : Tr :=
 .pu (.eqn .ptr true a0 (.pointer none)) fun x0 =>
 .ite x0
 (.pu (.bin .geq a1 (.int .i64 0)) fun x1 =>
 .ite x1
 (.pu (.bin .lss a1 (.int .i64 32)) fun x2 =>
 .ret x2)
 (.ret (.bool false)))
 (.ret (.bool false))
theorem d129 : ∀ (a0 a1 : Value) , denF en [] Tryz.f129 [a0, a1] = t129 a0 a1 := by intros; kernel_rfl
theorem c129 {ro : HP} {S : List Asrt} {Q : Value → List Asrt → Prop} (a0 a1 : Value) (h : WT Tryz.prog en.hb (t129 a0 a1) false ro S Q fun _ _ _ => False) : Tri Tryz.prog ro 129 ⟨[a0, a1]⟩ S Q :=
 tri_of_tree en_ok en_mixed Tryz.func129 (by rw [d129]; exact h)

/-- slices.Clone[[]uint32,uint32] -/
def t131 (a0 : Value) : Tr :=
 .pu (.eqn .slc false a0 (.slice none 0 0)) fun x0 =>
 .ite x0
 (.ret (.slice none 0 0))
 (.al (.bsl 84 1 0 [(.int .u32 0)] []) fun x1 =>
 .hv (.app 84 1 4 [(.int .u32 0)] x1 a0) fun x2 =>
 .ret x2)
theorem d131 : ∀ (a0 : Value) , denF en [] Tryz.f131 [a0] = t131 a0 := by intros; kernel_rfl
theorem c131 {ro : HP} {S : List Asrt} {Q : Value → List Asrt → Prop} (a0 : Value) (h : WT Tryz.prog en.hb (t131 a0) false ro S Q fun _ _ _ => False) : Tri Tryz.prog ro 131 ⟨[a0]⟩ S Q :=
 tri_of_tree en_ok en_mixed Tryz.func131 (by rw [d131]; exact h)

/-- (*lockbox/lock.Lock).Issued -/
def t144 (a0 : Value) : Tr :=
 .pu (.eqn .ptr false a0 (.pointer none)) fun x0 =>
 .ite x0
 (.ret (.slice none 0 0))
 (.pu (.nck a0) fun x1 =>
 .pu (.fad 3 x1) fun x2 =>
 .rd (.ld false 1 x2) fun x3 =>
 .callv x3 [] fun x4 =>
 .ret x4)
theorem d144 : ∀ (a0 : Value) , denF en [] Tryz.f144 [a0] = t144 a0 := by intros; kernel_rfl
theorem c144 {ro : HP} {S : List Asrt} {Q : Value → List Asrt → Prop} (a0 : Value) (h : WT Tryz.prog en.hb (t144 a0) false ro S Q fun _ _ _ => False) : Tri Tryz.prog ro 144 ⟨[a0]⟩ S Q :=
 tri_of_tree en_ok en_mixed Tryz.func144 (by rw [d144]; exact h)

/-- lockbox/ssd.copied -/
def t149 (a0 : Value) : Tr :=
 .al (.bx 189 a0) fun x0 =>
 .al (.nw 189 [(.int .i64 0), (.slice none 0 0)]) fun x1 =>
 .draw 0 (.pu (.fad 0 x0) fun x2 =>
 .rd (.ld false 1 x2) fun x3 =>
 .pu (.fad 1 x0) fun x4 =>
 .rd (.ld false 1 x4) fun x5 =>
 .call 111 [x5] fun x6 =>
 .pu (.bld [(.int .i64 0), (.slice none 0 0)] [(0, 1, x3), (1, 1, x6)]) fun x7 =>
 .fin 0 [x7]) fun u8 j9 =>
 .hv (.st 2 x1 (sl u8 0)) fun x10 =>
 .rd (.ld true 2 x1) fun x11 =>
 .ret x11
theorem d149 : ∀ (a0 : Value) , denF en [(2001, [8]), (3001, [0, 1, 2, 3, 4, 5]), (4001, [6])] Tryz.f149 [a0] = t149 a0 := by intros; kernel_rfl
theorem c149 {ro : HP} {S : List Asrt} {Q : Value → List Asrt → Prop} (a0 : Value) (h : WT Tryz.prog en.hb (t149 a0) false ro S Q fun _ _ _ => False) : Tri Tryz.prog ro 149 ⟨[a0]⟩ S Q :=
 tri_of_tree en_ok en_mixed Tryz.func149 (by rw [d149]; exact h)

/-- (*lockbox/keys.Keys).Key -/
def t155 (a0 a1 : Value) : Tr :=
 .al (.nw 90 [(.int .u64 0), (.int .u64 0)]) fun x0 =>
 .call 58 [a0] fun x1 =>
 .call 230 [x1, a1] fun x2 =>
 .pu (.un .not x2) fun x3 =>
 .ite x3
 (.pu (.bld [(.int .u64 0), (.int .u64 0)] []) fun x4 =>
 .hv (.st 2 x0 x4) fun x5 =>
 .rd (.ld true 2 x0) fun x6 =>
 .ret (.tuple ⟨[x6, (.bool false)]⟩))
 (.pu (.nck a0) fun x7 =>
 .pu (.fad 1 x7) fun x8 =>
 .rd (.ld false 1 x8) fun x9 =>
 .call 231 [x9, a1] fun x10 =>
 .hv (.st 2 x0 x10) fun x11 =>
 .rd (.ld true 2 x0) fun x12 =>
 .ret (.tuple ⟨[x12, (.bool true)]⟩))
theorem d155 : ∀ (a0 a1 : Value) , denF en [] Tryz.f155 [a0, a1] = t155 a0 a1 := by intros; kernel_rfl
theorem c155 {ro : HP} {S : List Asrt} {Q : Value → List Asrt → Prop} (a0 a1 : Value) (h : WT Tryz.prog en.hb (t155 a0 a1) false ro S Q fun _ _ _ => False) : Tri Tryz.prog ro 155 ⟨[a0, a1]⟩ S Q :=
 tri_of_tree en_ok en_mixed Tryz.func155 (by rw [d155]; exact h)

/-- lockbox/leaf.Is -/
def t158 (a0 a1 : Value) : Tr :=
 .al (.bx 92 a0) fun x0 =>
 .pu (.bin .lss a1 (.int .i64 0)) fun x1 =>
 .ite x1
 (.ret (.bool false))
 (.pu (.bin .geq a1 (.int .i64 16)) fun x2 =>
 .ite x2
 (.ret (.bool false))
 (.pu (.fad 0 x0) fun x3 =>
 .rd (.ld false 1 x3) fun x4 =>
 .pu (.bin .eql x4 (.int .i64 0)) fun x5 =>
 .ite x5
 (.rd (.ld true 8 x0) fun x6 =>
 .pu (.bld [(.int .i64 0), (.bool false), (.int .i64 0), (.int .u32 0), (.int .u32 0), (.int .u64 0), (.int .u64 0), (.int .u64 0)] []) fun x7 =>
 .pu (.eqa false [some .i64, none, some .i64, some .u32, some .u32, some .u64, some .u64, some .u64] x6 x7) fun x8 =>
 .ret x8)
 (.pu (.bin .eql x4 (.int .i64 2)) fun x9 =>
 .ite x9
 (.pu (.fad 2 x0) fun x10 =>
 .rd (.ld false 1 x10) fun x11 =>
 .call 233 [x11] fun x12 =>
 .ite x12
 (.rd (.ld true 8 x0) fun x13 =>
 .pu (.fad 2 x0) fun x14 =>
 .rd (.ld false 1 x14) fun x15 =>
 .pu (.bld [(.int .i64 0), (.bool false), (.int .i64 0), (.int .u32 0), (.int .u32 0), (.int .u64 0), (.int .u64 0), (.int .u64 0)] [(0, 1, (.int .i64 2)), (1, 1, (.bool true)), (2, 1, x15)]) fun x16 =>
 .pu (.eqa false [some .i64, none, some .i64, some .u32, some .u32, some .u64, some .u64, some .u64] x13 x16) fun x17 =>
 .ret x17)
 (.ret (.bool false)))
 (.pu (.bin .eql x4 (.int .i64 1)) fun x18 =>
 .ite x18
 (.pu (.fad 2 x0) fun x19 =>
 .rd (.ld false 1 x19) fun x20 =>
 .call 233 [x20] fun x21 =>
 .ite x21
 (.pu (.fad 3 x0) fun x22 =>
 .pu (.fad 1 x22) fun x23 =>
 .rd (.ld false 1 x23) fun x24 =>
 .pu (.cvi .u32 a1) fun x25 =>
 .pu (.bin .eql x24 x25) fun x26 =>
 .ite x26
 (.pu (.fad 3 x0) fun x27 =>
 .pu (.fad 0 x27) fun x28 =>
 .rd (.ld false 1 x28) fun x29 =>
 .pu (.bin .gtr x29 (.int .u32 0)) fun x30 =>
 .ret x30)
 (.ret (.bool false)))
 (.ret (.bool false)))
 (.ret (.bool false))))))
theorem d158 : ∀ (a0 a1 : Value) , denF en [] Tryz.f158 [a0, a1] = t158 a0 a1 := by intros; kernel_rfl
theorem c158 {ro : HP} {S : List Asrt} {Q : Value → List Asrt → Prop} (a0 a1 : Value) (h : WT Tryz.prog en.hb (t158 a0 a1) false ro S Q fun _ _ _ => False) : Tri Tryz.prog ro 158 ⟨[a0, a1]⟩ S Q :=
 tri_of_tree en_ok en_mixed Tryz.func158 (by rw [d158]; exact h)

/-- (*lockbox/oracle.Oracle).Issued -/
def t164 (a0 : Value) : Tr :=
 .pu (.eqn .ptr false a0 (.pointer none)) fun x0 =>
 .ite x0
 (.ret (.slice none 0 0))
 (.pu (.nck a0) fun x1 =>
 .pu (.fad 0 x1) fun x2 =>
 .rd (.ld false 1 x2) fun x3 =>
 .pu (.len x3) fun x4 =>
 .loop 0 [(.slice none 0 0), (.int .i64 0)] (fun u5 j6 =>
 .pu (.bin .lss (sl u5 1) x4) fun x7 =>
 .ite x7
 (.pu (.iad 10 x3 (sl u5 1)) fun x8 =>
 .rd (.ld true 10 x8) fun x9 =>
 .al (.nw 237 [(.int .u64 0), (.int .u64 0), (.int .u32 0), (.int .u32 0), (.int .u64 0), (.slice none 0 0), (.slice none 0 0), (.slice none 0 0), (.int .u64 0), (.int .u64 0)]) fun x10 =>
 .hv (.st 10 x10 x9) fun x11 =>
 .rd (.ld true 10 x10) fun x12 =>
 .call 244 [x12] fun x13 =>
 .al (.bsl 237 10 1 [(.int .u64 0), (.int .u64 0), (.int .u32 0), (.int .u32 0), (.int .u64 0), (.slice none 0 0), (.slice none 0 0), (.slice none 0 0), (.int .u64 0), (.int .u64 0)] [(0, 10, x13)]) fun x14 =>
 .hv (.app 237 10 120 [(.int .u64 0), (.int .u64 0), (.int .u32 0), (.int .u32 0), (.int .u64 0), (.slice none 0 0), (.slice none 0 0), (.slice none 0 0), (.int .u64 0), (.int .u64 0)] (sl u5 0) x14) fun x15 =>
 .pu (.bin .add (sl u5 1) (.int .i64 1)) fun x16 =>
 .fin 0 [x15, x16])
 (.fin 1 [(sl u5 0), (sl u5 1)])) fun u17 j18 =>
 .ret (sl u17 0))
theorem d164 : ∀ (a0 : Value) , denF en [(0, [3, 13])] Tryz.f164 [a0] = t164 a0 := by intros; kernel_rfl
theorem c164 {ro : HP} {S : List Asrt} {Q : Value → List Asrt → Prop} (a0 : Value) (h : WT Tryz.prog en.hb (t164 a0) false ro S Q fun _ _ _ => False) : Tri Tryz.prog ro 164 ⟨[a0]⟩ S Q :=
 tri_of_tree en_ok en_mixed Tryz.func164 (by rw [d164]; exact h)

/-- lockbox/oracle.New -/
def t166 : Tr :=
 .al (.mmk) fun x0 =>
 .pu (.bld [(.slice none 0 0), (.map none)] [(1, 1, x0)]) fun x1 =>
 .al (.bx 321 x1) fun x2 =>
 .ret x2
theorem d166 : denF en [] Tryz.f166 [] = t166  := by intros; kernel_rfl
theorem c166 {ro : HP} {S : List Asrt} {Q : Value → List Asrt → Prop} (h : WT Tryz.prog en.hb (t166 ) false ro S Q fun _ _ _ => False) : Tri Tryz.prog ro 166 ⟨[]⟩ S Q :=
 tri_of_tree en_ok en_mixed Tryz.func166 (by rw [d166]; exact h)

/-- (*lockbox/oracle.Oracle).Seal -/
def t167 (a0 a1 a2 a3 a4 : Value) : Tr :=
 .al (.bx 90 a1) fun x0 =>
 .al (.bx 88 a2) fun x1 =>
 .al (.nw 235 [(.slice none 0 0), (.int .u64 0), (.int .u64 0)]) fun x2 =>
 .pu (.eqn .ptr false a0 (.pointer none)) fun x3 =>
 .ite x3
 (.pu (.bld [(.slice none 0 0), (.int .u64 0), (.int .u64 0)] []) fun x4 =>
 .hv (.st 3 x2 x4) fun x5 =>
 .rd (.ld true 3 x2) fun x6 =>
 .ret (.tuple ⟨[x6, (.bool false)]⟩))
 (.pu (.len a3) fun x7 =>
 .pu (.bin .gtr x7 (.int .i64 4000)) fun x8 =>
 .ite x8
 (.pu (.bld [(.slice none 0 0), (.int .u64 0), (.int .u64 0)] []) fun x9 =>
 .hv (.st 3 x2 x9) fun x10 =>
 .rd (.ld true 3 x2) fun x11 =>
 .ret (.tuple ⟨[x11, (.bool false)]⟩))
 (.pu (.len a4) fun x12 =>
 .pu (.bin .gtr x12 (.int .i64 4000)) fun x13 =>
 .ite x13
 (.pu (.bld [(.slice none 0 0), (.int .u64 0), (.int .u64 0)] []) fun x14 =>
 .hv (.st 3 x2 x14) fun x15 =>
 .rd (.ld true 3 x2) fun x16 =>
 .ret (.tuple ⟨[x16, (.bool false)]⟩))
 (.pu (.nck a0) fun x17 =>
 .pu (.fad 0 x17) fun x18 =>
 .rd (.ld false 1 x18) fun x19 =>
 .pu (.len x19) fun x20 =>
 .pu (.bin .add x20 (.int .i64 1)) fun x21 =>
 .pu (.cvi .u64 x21) fun x22 =>
 .call 240 [x22, (.int .i64 8)] fun x23 =>
 .pu (.len a4) fun x24 =>
 .pu (.bin .quo x24 (.int .i64 8)) fun x25 =>
 .pu (.bin .add x25 (.int .i64 1)) fun x26 =>
 .call 245 [x23, x26] fun x27 =>
 .pu (.len a4) fun x28 =>
 .pu (.slc 1 x27 none (some x28) none) fun x29 =>
 .draw 0 (.rd (.ld true 2 x0) fun x30 =>
 .rd (.ld true 3 x1) fun x31 =>
 .call 111 [a3] fun x32 =>
 .call 111 [a4] fun x33 =>
 .pu (.bld [(.int .u64 0), (.int .u64 0)] [(0, 1, (.int .u64 18446744073709551615)), (1, 1, x22)]) fun x34 =>
 .pu (.bld [(.slice none 0 0), (.int .u64 0), (.int .u64 0)] [(0, 1, x29), (1, 2, x34)]) fun x35 =>
 .pu (.bld [(.int .u64 0), (.int .u64 0), (.int .u32 0), (.int .u32 0), (.int .u64 0), (.slice none 0 0), (.slice none 0 0), (.slice none 0 0), (.int .u64 0), (.int .u64 0)] [(0, 2, x30), (2, 3, x31), (5, 1, x32), (6, 1, x33), (7, 3, x35)]) fun x36 =>
 .al (.nw 237 [(.int .u64 0), (.int .u64 0), (.int .u32 0), (.int .u32 0), (.int .u64 0), (.slice none 0 0), (.slice none 0 0), (.slice none 0 0), (.int .u64 0), (.int .u64 0)]) fun x37 =>
 .fin 0 [x37, x36]) fun u38 j39 =>
 .hv (.st 10 (sl u38 0) (sl u38 1)) fun x40 =>
 .draw 0 (.pu (.nck a0) fun x41 =>
 .pu (.fad 0 x41) fun x42 =>
 .rd (.ld false 1 x42) fun x43 =>
 .rd (.ld true 10 (sl u38 0)) fun x44 =>
 .al (.bsl 237 10 1 [(.int .u64 0), (.int .u64 0), (.int .u32 0), (.int .u32 0), (.int .u64 0), (.slice none 0 0), (.slice none 0 0), (.slice none 0 0), (.int .u64 0), (.int .u64 0)] [(0, 10, x44)]) fun x45 =>
 .hv (.app 237 10 120 [(.int .u64 0), (.int .u64 0), (.int .u32 0), (.int .u32 0), (.int .u64 0), (.slice none 0 0), (.slice none 0 0), (.slice none 0 0), (.int .u64 0), (.int .u64 0)] x43 x45) fun x46 =>
 .fin 0 [a0, x46]) fun u47 j48 =>
 .pu (.nck (sl u47 0)) fun x49 =>
 .pu (.fad 0 x49) fun x50 =>
 .hv (.st 1 x50 (sl u47 1)) fun x51 =>
 .rd (.ld true 10 (sl u38 0)) fun x52 =>
 .call 244 [x52] fun x53 =>
 .pu (.fld 7 3 true x53) fun x54 =>
 .hv (.st 3 x2 x54) fun x55 =>
 .rd (.ld true 3 x2) fun x56 =>
 .ret (.tuple ⟨[x56, (.bool true)]⟩))))
theorem d167 : ∀ (a0 a1 a2 a3 a4 : Value) , denF en [(2005, [14, 55]), (3005, [0, 1, 2, 3, 4, 5, 6, 7, 8, 9, 10, 11]), (4005, [12]), (2006, [56, 63]), (3006, [0, 1, 2, 3, 4, 5, 6, 7]), (4006, [8, 9, 10])] Tryz.f167 [a0, a1, a2, a3, a4] = t167 a0 a1 a2 a3 a4 := by intros; kernel_rfl
theorem c167 {ro : HP} {S : List Asrt} {Q : Value → List Asrt → Prop} (a0 a1 a2 a3 a4 : Value) (h : WT Tryz.prog en.hb (t167 a0 a1 a2 a3 a4) false ro S Q fun _ _ _ => False) : Tri Tryz.prog ro 167 ⟨[a0, a1, a2, a3, a4]⟩ S Q :=
 tri_of_tree en_ok en_mixed Tryz.func167 (by rw [d167]; exact h)

/-- (*lockbox/oracle.Oracle).Open -/
def t168 (a0 a1 a2 a3 a4 : Value) : Tr :=
 .al (.bx 90 a1) fun x0 =>
 .al (.bx 88 a2) fun x1 =>
 .al (.bx 235 a4) fun x2 =>
 .pu (.eqn .ptr false a0 (.pointer none)) fun x3 =>
 .ite x3
 (.ret (.tuple ⟨[(.slice none 0 0), (.bool false)]⟩))
 (.pu (.nck a0) fun x4 =>
 .pu (.fad 0 x4) fun x5 =>
 .rd (.ld false 1 x5) fun x6 =>
 .pu (.len x6) fun x7 =>
 .loop 0 [(.int .i64 0)] (fun u8 j9 =>
 .pu (.bin .lss (sl u8 0) x7) fun x10 =>
 .ite x10
 (.pu (.iad 10 x6 (sl u8 0)) fun x11 =>
 .rd (.ld true 10 x11) fun x12 =>
 .al (.nw 237 [(.int .u64 0), (.int .u64 0), (.int .u32 0), (.int .u32 0), (.int .u64 0), (.slice none 0 0), (.slice none 0 0), (.slice none 0 0), (.int .u64 0), (.int .u64 0)]) fun x13 =>
 .hv (.st 10 x13 x12) fun x14 =>
 .pu (.fad 0 x13) fun x15 =>
 .rd (.ld true 2 x15) fun x16 =>
 .rd (.ld true 2 x0) fun x17 =>
 .pu (.eqa false [some .u64, some .u64] x16 x17) fun x18 =>
 .ite x18
 (.pu (.fad 2 x13) fun x19 =>
 .rd (.ld true 3 x19) fun x20 =>
 .rd (.ld true 3 x1) fun x21 =>
 .pu (.eqa false [some .u32, some .u32, some .u64] x20 x21) fun x22 =>
 .ite x22
 (.pu (.fad 7 x13) fun x23 =>
 .pu (.fad 1 x23) fun x24 =>
 .rd (.ld true 2 x24) fun x25 =>
 .pu (.fad 1 x2) fun x26 =>
 .rd (.ld true 2 x26) fun x27 =>
 .pu (.eqa false [some .u64, some .u64] x25 x27) fun x28 =>
 .ite x28
 (.pu (.fad 5 x13) fun x29 =>
 .rd (.ld false 1 x29) fun x30 =>
 .call 118 [x30, a3] fun x31 =>
 .ite x31
 (.pu (.fad 7 x13) fun x32 =>
 .pu (.fad 0 x32) fun x33 =>
 .rd (.ld false 1 x33) fun x34 =>
 .pu (.fad 0 x2) fun x35 =>
 .rd (.ld false 1 x35) fun x36 =>
 .call 118 [x34, x36] fun x37 =>
 .ite x37
 (.pu (.fad 6 x13) fun x38 =>
 .rd (.ld false 1 x38) fun x39 =>
 .call 111 [x39] fun x40 =>
 .ret (.tuple ⟨[x40, (.bool true)]⟩))
 (.pu (.bin .add (sl u8 0) (.int .i64 1)) fun x41 =>
 .fin 0 [x41]))
 (.pu (.bin .add (sl u8 0) (.int .i64 1)) fun x42 =>
 .fin 0 [x42]))
 (.pu (.bin .add (sl u8 0) (.int .i64 1)) fun x43 =>
 .fin 0 [x43]))
 (.pu (.bin .add (sl u8 0) (.int .i64 1)) fun x44 =>
 .fin 0 [x44]))
 (.pu (.bin .add (sl u8 0) (.int .i64 1)) fun x45 =>
 .fin 0 [x45]))
 (.fin 1 [(sl u8 0)])) fun u46 j47 =>
 .ret (.tuple ⟨[(.slice none 0 0), (.bool false)]⟩))
theorem d168 : ∀ (a0 a1 a2 a3 a4 : Value) , denF en [(0, [21])] Tryz.f168 [a0, a1, a2, a3, a4] = t168 a0 a1 a2 a3 a4 := by intros; kernel_rfl
theorem c168 {ro : HP} {S : List Asrt} {Q : Value → List Asrt → Prop} (a0 a1 a2 a3 a4 : Value) (h : WT Tryz.prog en.hb (t168 a0 a1 a2 a3 a4) false ro S Q fun _ _ _ => False) : Tri Tryz.prog ro 168 ⟨[a0, a1, a2, a3, a4]⟩ S Q :=
 tri_of_tree en_ok en_mixed Tryz.func168 (by rw [d168]; exact h)

/-- (*lockbox/oracle.Oracle).Sum -/
def t169 (a0 a1 : Value) : Tr :=
 .al (.nw 90 [(.int .u64 0), (.int .u64 0)]) fun x0 =>
 .pu (.eqn .ptr false a0 (.pointer none)) fun x1 =>
 .ite x1
 (.pu (.bld [(.int .u64 0), (.int .u64 0)] []) fun x2 =>
 .hv (.st 2 x0 x2) fun x3 =>
 .rd (.ld true 2 x0) fun x4 =>
 .ret x4)
 (.call 239 [a1] fun x5 =>
 .rd (.b2s x5) fun x6 =>
 .pu (.nck a0) fun x7 =>
 .pu (.fad 1 x7) fun x8 =>
 .rd (.ld false 1 x8) fun x9 =>
 .rd (.mlk .str (.int .u64 0) true x9 x6) fun x10 =>
 .pu (.ext x10 0) fun x11 =>
 .pu (.ext x10 1) fun x12 =>
 .pu (.un .not x12) fun x13 =>
 .ite x13
 (.pu (.nck a0) fun x14 =>
 .pu (.fad 1 x14) fun x15 =>
 .rd (.ld false 1 x15) fun x16 =>
 .rd (.mln x16) fun x17 =>
 .pu (.bin .add x17 (.int .i64 1)) fun x18 =>
 .pu (.cvi .u64 x18) fun x19 =>
 .pu (.nck a0) fun x20 =>
 .pu (.fad 1 x20) fun x21 =>
 .rd (.ld false 1 x21) fun x22 =>
 .hv (.mup .str x22 x6 x19) fun x23 =>
 .pu (.bld [(.int .u64 0), (.int .u64 0)] [(0, 1, (.int .u64 17216961135462248174)), (1, 1, x19)]) fun x24 =>
 .hv (.st 2 x0 x24) fun x25 =>
 .rd (.ld true 2 x0) fun x26 =>
 .ret x26)
 (.pu (.bld [(.int .u64 0), (.int .u64 0)] [(0, 1, (.int .u64 17216961135462248174)), (1, 1, x11)]) fun x27 =>
 .hv (.st 2 x0 x27) fun x28 =>
 .rd (.ld true 2 x0) fun x29 =>
 .ret x29))
theorem d169 : ∀ (a0 a1 : Value) , denF en [] Tryz.f169 [a0, a1] = t169 a0 a1 := by intros; kernel_rfl
theorem c169 {ro : HP} {S : List Asrt} {Q : Value → List Asrt → Prop} (a0 a1 : Value) (h : WT Tryz.prog en.hb (t169 a0 a1) false ro S Q fun _ _ _ => False) : Tri Tryz.prog ro 169 ⟨[a0, a1]⟩ S Q :=
 tri_of_tree en_ok en_mixed Tryz.func169 (by rw [d169]; exact h)

/-- (lockbox/geom.Geom).Rec -/
def t170 (a0 a1 : Value) : Tr :=
 .al (.bx 39 a0) fun x0 =>
 .rd (.ld true 1 x0) fun x1 =>
 .call 246 [x1, a1, (.int .i64 2)] fun x2 =>
 .pu (.un .not x2) fun x3 =>
 .ite x3
 (.ret (.int .i64 (-1)))
 (.draw 0 (.pu (.fad 0 x0) fun x4 =>
 .rd (.ld false 1 x4) fun x5 =>
 .pu (.bin .mul x5 (.int .i64 32)) fun x6 =>
 .rd (.ld true 1 x0) fun x7 =>
 .call 247 [x7] fun x8 =>
 .pu (.bin .mul (.int .i64 2) x8) fun x9 =>
 .pu (.bin .add x6 x9) fun x10 =>
 .pu (.bin .mul a1 (.int .i64 60)) fun x11 =>
 .pu (.bin .add x10 x11) fun x12 =>
 .fin 0 [x12]) fun u13 j14 =>
 .ret (sl u13 0))
theorem d170 : ∀ (a0 a1 : Value) , denF en [(2003, [4])] Tryz.f170 [a0, a1] = t170 a0 a1 := by intros; kernel_rfl
theorem c170 {ro : HP} {S : List Asrt} {Q : Value → List Asrt → Prop} (a0 a1 : Value) (h : WT Tryz.prog en.hb (t170 a0 a1) false ro S Q fun _ _ _ => False) : Tri Tryz.prog ro 170 ⟨[a0, a1]⟩ S Q :=
 tri_of_tree en_ok en_mixed Tryz.func170 (by rw [d170]; exact h)

/-- lockbox/area.is -/
def t171 (a0 a1 : Value) : Tr :=
 .pu (.eqn .ptr true a0 (.pointer none)) fun x0 =>
 .ite x0
 (.pu (.bin .geq a1 (.int .i64 0)) fun x1 =>
 .ite x1
 (.pu (.bin .lss a1 (.int .i64 2)) fun x2 =>
 .ret x2)
 (.ret (.bool false)))
 (.ret (.bool false))
theorem d171 : ∀ (a0 a1 : Value) , denF en [] Tryz.f171 [a0, a1] = t171 a0 a1 := by intros; kernel_rfl
theorem c171 {ro : HP} {S : List Asrt} {Q : Value → List Asrt → Prop} (a0 a1 : Value) (h : WT Tryz.prog en.hb (t171 a0 a1) false ro S Q fun _ _ _ => False) : Tri Tryz.prog ro 171 ⟨[a0, a1]⟩ S Q :=
 tri_of_tree en_ok en_mixed Tryz.func171 (by rw [d171]; exact h)

/-- lockbox/leaf.Put -/
def t172 (a0 a1 : Value) : Tr :=
 .al (.bx 92 a0) fun x0 =>
 .rd (.ld true 8 x0) fun x1 =>
 .call 158 [x1, a1] fun x2 =>
 .pu (.un .not x2) fun x3 =>
 .ite x3
 (.ret (.tuple ⟨[(.slice none 0 0), (.bool false)]⟩))
 (.pu (.fad 1 x0) fun x4 =>
 .rd (.ld false 1 x4) fun x5 =>
 .ite x5
 (.draw 0 (.pu (.fad 0 x0) fun x6 =>
 .rd (.ld false 1 x6) fun x7 =>
 .pu (.cvi .u64 x7) fun x8 =>
 .call 240 [x8, (.int .i64 1)] fun x9 =>
 .call 240 [(.int .u64 1), (.int .i64 1)] fun x10 =>
 .pu (.fad 2 x0) fun x11 =>
 .rd (.ld false 1 x11) fun x12 =>
 .pu (.cvi .u64 x12) fun x13 =>
 .call 240 [x13, (.int .i64 2)] fun x14 =>
 .pu (.fad 3 x0) fun x15 =>
 .pu (.fad 0 x15) fun x16 =>
 .rd (.ld false 1 x16) fun x17 =>
 .pu (.cvi .u64 x17) fun x18 =>
 .call 240 [x18, (.int .i64 4)] fun x19 =>
 .pu (.fad 3 x0) fun x20 =>
 .pu (.fad 2 x20) fun x21 =>
 .rd (.ld false 1 x21) fun x22 =>
 .call 240 [x22, (.int .i64 8)] fun x23 =>
 .pu (.fad 6 x0) fun x24 =>
 .rd (.ld true 2 x24) fun x25 =>
 .call 174 [x25] fun x26 =>
 .al (.bsl 55 1 6 [(.slice none 0 0)] [(0, 1, x9), (1, 1, x10), (2, 1, x14), (3, 1, x19), (4, 1, x23), (5, 1, x26)]) fun x27 =>
 .call 239 [x27] fun x28 =>
 .fin 0 [x28, (.bool true)]) fun u29 j30 =>
 .ret (.tuple ⟨[(sl u29 0), (sl u29 1)]⟩))
 (.draw 0 (.pu (.fad 0 x0) fun x31 =>
 .rd (.ld false 1 x31) fun x32 =>
 .pu (.cvi .u64 x32) fun x33 =>
 .call 240 [x33, (.int .i64 1)] fun x34 =>
 .call 240 [(.int .u64 0), (.int .i64 1)] fun x35 =>
 .pu (.fad 2 x0) fun x36 =>
 .rd (.ld false 1 x36) fun x37 =>
 .pu (.cvi .u64 x37) fun x38 =>
 .call 240 [x38, (.int .i64 2)] fun x39 =>
 .pu (.fad 3 x0) fun x40 =>
 .pu (.fad 0 x40) fun x41 =>
 .rd (.ld false 1 x41) fun x42 =>
 .pu (.cvi .u64 x42) fun x43 =>
 .call 240 [x43, (.int .i64 4)] fun x44 =>
 .pu (.fad 3 x0) fun x45 =>
 .pu (.fad 2 x45) fun x46 =>
 .rd (.ld false 1 x46) fun x47 =>
 .call 240 [x47, (.int .i64 8)] fun x48 =>
 .pu (.fad 6 x0) fun x49 =>
 .rd (.ld true 2 x49) fun x50 =>
 .call 174 [x50] fun x51 =>
 .al (.bsl 55 1 6 [(.slice none 0 0)] [(0, 1, x34), (1, 1, x35), (2, 1, x39), (3, 1, x44), (4, 1, x48), (5, 1, x51)]) fun x52 =>
 .call 239 [x52] fun x53 =>
 .fin 0 [x53, (.bool true)]) fun u54 j55 =>
 .ret (.tuple ⟨[(sl u54 0), (sl u54 1)]⟩)))
theorem d172 : ∀ (a0 a1 : Value) , denF en [(2006, [4, 5])] Tryz.f172 [a0, a1] = t172 a0 a1 := by intros; kernel_rfl
theorem c172 {ro : HP} {S : List Asrt} {Q : Value → List Asrt → Prop} (a0 a1 : Value) (h : WT Tryz.prog en.hb (t172 a0 a1) false ro S Q fun _ _ _ => False) : Tri Tryz.prog ro 172 ⟨[a0, a1]⟩ S Q :=
 tri_of_tree en_ok en_mixed Tryz.func172 (by rw [d172]; exact h)
end Go.Lb
