/- Functions of this seat's program as trees, printed by a program of ours, and that they are the functions' own. No statement of the seat is proved in this file. -/
import Derived.Test.YtkblnbbpeakgmaaGreatT
set_option linter.all false
namespace Go.Lb
open Go.Proofs

/-- lockbox/tree.Build -/
def t173 (a0 a1 : Value) : Tr :=
 .pu (.len a1) fun x0 =>
 .call 91 [x0] fun x1 =>
 .pu (.un .not x1) fun x2 =>
 .ite x2
 (.ret (.tuple ⟨[(.slice none 0 0), (.bool false)]⟩))
 (.pu (.bin .mul (.int .i64 2) x0) fun x3 =>
 .al (.mks 90 2 16 [(.int .u64 0), (.int .u64 0)] x3 x3) fun x4 =>
 .pu (.len a1) fun x5 =>
 .loop 0 [(.int .i64 0)] (fun u6 j7 =>
 .pu (.bin .lss (sl u6 0) x5) fun x8 =>
 .ite x8
 (.pu (.iad 1 a1 (sl u6 0)) fun x9 =>
 .rd (.ld false 1 x9) fun x10 =>
 .pu (.bin .add x0 (sl u6 0)) fun x11 =>
 .call 248 [a0, x10] fun x12 =>
 .pu (.iad 2 x4 x11) fun x13 =>
 .hv (.st 2 x13 x12) fun x14 =>
 .pu (.bin .add (sl u6 0) (.int .i64 1)) fun x15 =>
 .fin 0 [x15])
 (.fin 1 [(sl u6 0)])) fun u16 j17 =>
 .pu (.bin .sub x0 (.int .i64 1)) fun x18 =>
 .loop 0 [x18] (fun u19 j20 =>
 .pu (.bin .gtr (sl u19 0) (.int .i64 0)) fun x21 =>
 .ite x21
 (.draw 2 (.pu (.bin .mul (.int .i64 2) (sl u19 0)) fun x22 =>
 .pu (.iad 2 x4 x22) fun x23 =>
 .rd (.ld true 2 x23) fun x24 =>
 .pu (.bin .mul (.int .i64 2) (sl u19 0)) fun x25 =>
 .pu (.bin .add x25 (.int .i64 1)) fun x26 =>
 .pu (.iad 2 x4 x26) fun x27 =>
 .rd (.ld true 2 x27) fun x28 =>
 .call 249 [a0, x24, x28] fun x29 =>
 .pu (.iad 2 x4 (sl u19 0)) fun x30 =>
 .fin 2 [x29, x30]) fun u31 j32 =>
 .hv (.st 2 (sl u31 1) (sl u31 0)) fun x33 =>
 .pu (.bin .sub (sl u19 0) (.int .i64 1)) fun x34 =>
 .fin 0 [x34])
 (.fin 1 [(sl u19 0)])) fun u35 j36 =>
 .ret (.tuple ⟨[x4, (.bool true)]⟩))
theorem d173 : ∀ (a0 a1 : Value) , denF en [(0, [21]), (2013, [55, 56]), (3013, [0, 1, 2, 3, 4, 5, 6, 7, 8, 9, 10, 11, 12, 13, 14, 15]), (4013, [16]), (2, [10])] Tryz.f173 [a0, a1] = t173 a0 a1 := by intros; kernel_rfl
theorem c173 {ro : HP} {S : List Asrt} {Q : Value → List Asrt → Prop} (a0 a1 : Value) (h : WT Tryz.prog en.hb (t173 a0 a1) false ro S Q fun _ _ _ => False) : Tri Tryz.prog ro 173 ⟨[a0, a1]⟩ S Q :=
 tri_of_tree en_ok en_mixed Tryz.func173 (by rw [d173]; exact h)

/-- lockbox/wire.Bytes -/
def t174 (a0 : Value) : Tr :=
 .al (.bx 90 a0) fun x0 =>
 .draw 0 (.pu (.aad 2 1 x0 (.int .i64 0)) fun x1 =>
 .rd (.ld false 1 x1) fun x2 =>
 .call 240 [x2, (.int .i64 8)] fun x3 =>
 .pu (.aad 2 1 x0 (.int .i64 1)) fun x4 =>
 .rd (.ld false 1 x4) fun x5 =>
 .call 240 [x5, (.int .i64 8)] fun x6 =>
 .hv (.app 5 1 1 [(.int .u8 0)] x3 x6) fun x7 =>
 .fin 0 [x7]) fun u8 j9 =>
 .ret (sl u8 0)
theorem d174 : ∀ (a0 : Value) , denF en [(2001, [2])] Tryz.f174 [a0] = t174 a0 := by intros; kernel_rfl
theorem c174 {ro : HP} {S : List Asrt} {Q : Value → List Asrt → Prop} (a0 : Value) (h : WT Tryz.prog en.hb (t174 a0) false ro S Q fun _ _ _ => False) : Tri Tryz.prog ro 174 ⟨[a0]⟩ S Q :=
 tri_of_tree en_ok en_mixed Tryz.func174 (by rw [d174]; exact h)

/-- (*lockbox/ssd.SSD).Write -/
def t175 (a0 a1 a2 : Value) : Tr :=
 .pu (.len a2) fun x0 =>
 .call 113 [a0, a1, x0] fun x1 =>
 .pu (.un .not x1) fun x2 =>
 .ite x2
 (.ret (.bool false))
 (.pu (.nck a0) fun x3 =>
 .pu (.fad 0 x3) fun x4 =>
 .rd (.ld false 1 x4) fun x5 =>
 .call 110 [x5] fun x6 =>
 .pu (.un .not x6) fun x7 =>
 .ite x7
 (.ret (.bool false))
 (.pu (.bld [(.int .i64 0), (.slice none 0 0)] [(0, 1, a1), (1, 1, a2)]) fun x8 =>
 .al (.nw 189 [(.int .i64 0), (.slice none 0 0)]) fun x9 =>
 .hv (.st 2 x9 x8) fun x10 =>
 .draw 0 (.pu (.nck a0) fun x11 =>
 .pu (.fad 2 x11) fun x12 =>
 .rd (.ld false 1 x12) fun x13 =>
 .rd (.ld true 2 x9) fun x14 =>
 .call 149 [x14] fun x15 =>
 .al (.bsl 189 2 1 [(.int .i64 0), (.slice none 0 0)] [(0, 2, x15)]) fun x16 =>
 .hv (.app 189 2 32 [(.int .i64 0), (.slice none 0 0)] x13 x16) fun x17 =>
 .fin 0 [a0, x17]) fun u18 j19 =>
 .pu (.nck (sl u18 0)) fun x20 =>
 .pu (.fad 2 x20) fun x21 =>
 .hv (.st 1 x21 (sl u18 1)) fun x22 =>
 .draw 0 (.pu (.nck a0) fun x23 =>
 .pu (.fad 3 x23) fun x24 =>
 .rd (.ld false 1 x24) fun x25 =>
 .rd (.ld true 2 x9) fun x26 =>
 .call 149 [x26] fun x27 =>
 .al (.bsl 189 2 1 [(.int .i64 0), (.slice none 0 0)] [(0, 2, x27)]) fun x28 =>
 .hv (.app 189 2 32 [(.int .i64 0), (.slice none 0 0)] x25 x28) fun x29 =>
 .fin 0 [a0, x29]) fun u30 j31 =>
 .pu (.nck (sl u30 0)) fun x32 =>
 .pu (.fad 3 x32) fun x33 =>
 .hv (.st 1 x33 (sl u30 1)) fun x34 =>
 .ret (.bool true)))
theorem d175 : ∀ (a0 a1 a2 : Value) , denF en [(2004, [25, 33]), (3004, [0, 1, 2, 3, 4, 5, 6, 7, 8]), (4004, [9, 10, 11]), (2005, [36, 44]), (3005, [0, 1, 2, 3, 4, 5, 6, 7, 8]), (4005, [9, 10, 11])] Tryz.f175 [a0, a1, a2] = t175 a0 a1 a2 := by intros; kernel_rfl
theorem c175 {ro : HP} {S : List Asrt} {Q : Value → List Asrt → Prop} (a0 a1 a2 : Value) (h : WT Tryz.prog en.hb (t175 a0 a1 a2) false ro S Q fun _ _ _ => False) : Tri Tryz.prog ro 175 ⟨[a0, a1, a2]⟩ S Q :=
 tri_of_tree en_ok en_mixed Tryz.func175 (by rw [d175]; exact h)

/-- (lockbox/geom.Geom).Leaf -/
def t176 (a0 a1 a2 : Value) : Tr :=
 .al (.bx 39 a0) fun x0 =>
 .rd (.ld true 1 x0) fun x1 =>
 .call 246 [x1, a1, (.int .i64 2)] fun x2 =>
 .pu (.un .not x2) fun x3 =>
 .ite x3
 (.ret (.int .i64 (-1)))
 (.rd (.ld true 1 x0) fun x4 =>
 .pu (.fad 0 x0) fun x5 =>
 .rd (.ld false 1 x5) fun x6 =>
 .call 246 [x4, a2, x6] fun x7 =>
 .pu (.un .not x7) fun x8 =>
 .ite x8
 (.ret (.int .i64 (-1)))
 (.draw 0 (.pu (.fad 0 x0) fun x9 =>
 .rd (.ld false 1 x9) fun x10 =>
 .pu (.bin .mul x10 (.int .i64 32)) fun x11 =>
 .rd (.ld true 1 x0) fun x12 =>
 .call 247 [x12] fun x13 =>
 .pu (.bin .mul a1 x13) fun x14 =>
 .pu (.bin .add x11 x14) fun x15 =>
 .pu (.bin .mul a2 (.int .i64 32)) fun x16 =>
 .pu (.bin .add x15 x16) fun x17 =>
 .fin 0 [x17]) fun u18 j19 =>
 .ret (sl u18 0)))
theorem d176 : ∀ (a0 a1 a2 : Value) , denF en [(2003, [6])] Tryz.f176 [a0, a1, a2] = t176 a0 a1 a2 := by intros; kernel_rfl
theorem c176 {ro : HP} {S : List Asrt} {Q : Value → List Asrt → Prop} (a0 a1 a2 : Value) (h : WT Tryz.prog en.hb (t176 a0 a1 a2) false ro S Q fun _ _ _ => False) : Tri Tryz.prog ro 176 ⟨[a0, a1, a2]⟩ S Q :=
 tri_of_tree en_ok en_mixed Tryz.func176 (by rw [d176]; exact h)

/-- (lockbox/geom.Geom).Node -/
def t177 (a0 a1 a2 : Value) : Tr :=
 .al (.bx 39 a0) fun x0 =>
 .rd (.ld true 1 x0) fun x1 =>
 .call 246 [x1, a1, (.int .i64 2)] fun x2 =>
 .pu (.un .not x2) fun x3 =>
 .ite x3
 (.ret (.int .i64 (-1)))
 (.rd (.ld true 1 x0) fun x4 =>
 .pu (.fad 0 x0) fun x5 =>
 .rd (.ld false 1 x5) fun x6 =>
 .pu (.bin .mul (.int .i64 2) x6) fun x7 =>
 .call 246 [x4, a2, x7] fun x8 =>
 .pu (.un .not x8) fun x9 =>
 .ite x9
 (.ret (.int .i64 (-1)))
 (.rd (.ld true 1 x0) fun x10 =>
 .call 250 [x10, (.func (.func 176) ⟨[]⟩ ⟨[]⟩), a1] fun x11 =>
 .pu (.bin .mul a2 (.int .i64 16)) fun x12 =>
 .pu (.bin .add x11 x12) fun x13 =>
 .ret x13))
theorem d177 : ∀ (a0 a1 a2 : Value) , denF en [] Tryz.f177 [a0, a1, a2] = t177 a0 a1 a2 := by intros; kernel_rfl
theorem c177 {ro : HP} {S : List Asrt} {Q : Value → List Asrt → Prop} (a0 a1 a2 : Value) (h : WT Tryz.prog en.hb (t177 a0 a1 a2) false ro S Q fun _ _ _ => False) : Tri Tryz.prog ro 177 ⟨[a0, a1, a2]⟩ S Q :=
 tri_of_tree en_ok en_mixed Tryz.func177 (by rw [d177]; exact h)

/-- lockbox/root.Put -/
def t178 (a0 : Value) : Tr :=
 .al (.bx 176 a0) fun x0 =>
 .pu (.fad 2 x0) fun x1 =>
 .rd (.ld false 1 x1) fun x2 =>
 .call 251 [x2] fun x3 =>
 .pu (.un .not x3) fun x4 =>
 .ite x4
 (.ret (.tuple ⟨[(.slice none 0 0), (.bool false)]⟩))
 (.draw 0 (.pu (.fad 0 x0) fun x5 =>
 .rd (.ld false 1 x5) fun x6 =>
 .call 240 [x6, (.int .i64 8)] fun x7 =>
 .pu (.fad 1 x0) fun x8 =>
 .rd (.ld false 1 x8) fun x9 =>
 .pu (.cvi .u64 x9) fun x10 =>
 .call 240 [x10, (.int .i64 4)] fun x11 =>
 .pu (.fad 2 x0) fun x12 =>
 .rd (.ld false 1 x12) fun x13 =>
 .pu (.cvi .u64 x13) fun x14 =>
 .call 240 [x14, (.int .i64 4)] fun x15 =>
 .pu (.fad 3 x0) fun x16 =>
 .rd (.ld true 2 x16) fun x17 =>
 .call 174 [x17] fun x18 =>
 .al (.bsl 55 1 4 [(.slice none 0 0)] [(0, 1, x7), (1, 1, x11), (2, 1, x15), (3, 1, x18)]) fun x19 =>
 .call 239 [x19] fun x20 =>
 .fin 0 [x20, (.bool true)]) fun u21 j22 =>
 .ret (.tuple ⟨[(sl u21 0), (sl u21 1)]⟩))
theorem d178 : ∀ (a0 : Value) , denF en [(2003, [2, 3])] Tryz.f178 [a0] = t178 a0 := by intros; kernel_rfl
theorem c178 {ro : HP} {S : List Asrt} {Q : Value → List Asrt → Prop} (a0 : Value) (h : WT Tryz.prog en.hb (t178 a0) false ro S Q fun _ _ _ => False) : Tri Tryz.prog ro 178 ⟨[a0]⟩ S Q :=
 tri_of_tree en_ok en_mixed Tryz.func178 (by rw [d178]; exact h)

/-- (*lockbox/world.World).Key -/
def t179 (a0 : Value) : Tr :=
 .al (.nw 90 [(.int .u64 0), (.int .u64 0)]) fun x0 =>
 .pu (.eqn .ptr false a0 (.pointer none)) fun x1 =>
 .ite x1
 (.pu (.bld [(.int .u64 0), (.int .u64 0)] []) fun x2 =>
 .hv (.st 2 x0 x2) fun x3 =>
 .rd (.ld true 2 x0) fun x4 =>
 .ret (.tuple ⟨[(.int .u32 0), x4]⟩))
 (.pu (.nck a0) fun x5 =>
 .pu (.fad 5 x5) fun x6 =>
 .rd (.ld false 1 x6) fun x7 =>
 .call 54 [x7] fun x8 =>
 .pu (.nck a0) fun x9 =>
 .pu (.fad 5 x9) fun x10 =>
 .rd (.ld false 1 x10) fun x11 =>
 .call 155 [x11, x8] fun x12 =>
 .pu (.ext x12 0) fun x13 =>
 .pu (.ext x12 1) fun x14 =>
 .hv (.st 2 x0 x13) fun x15 =>
 .draw 0 (.rd (.ld true 2 x0) fun x16 =>
 .fin 0 [x8, x16]) fun u17 j18 =>
 .hv (.st 2 x0 (sl u17 1)) fun x19 =>
 .rd (.ld true 2 x0) fun x20 =>
 .ret (.tuple ⟨[(sl u17 0), x20]⟩))
theorem d179 : ∀ (a0 : Value) , denF en [(2005, [2, 22]), (3005, [0, 1, 2]), (4005, [3])] Tryz.f179 [a0] = t179 a0 := by intros; kernel_rfl
theorem c179 {ro : HP} {S : List Asrt} {Q : Value → List Asrt → Prop} (a0 : Value) (h : WT Tryz.prog en.hb (t179 a0) false ro S Q fun _ _ _ => False) : Tri Tryz.prog ro 179 ⟨[a0]⟩ S Q :=
 tri_of_tree en_ok en_mixed Tryz.func179 (by rw [d179]; exact h)

/-- (*lockbox/nonce.Maker).Next -/
def t180 (a0 a1 a2 : Value) : Tr :=
 .al (.nw 88 [(.int .u32 0), (.int .u32 0), (.int .u64 0)]) fun x0 =>
 .pu (.bin .lss a2 (.int .i64 0)) fun x1 =>
 .ite x1
 (.pu (.bld [(.int .u32 0), (.int .u32 0), (.int .u64 0)] []) fun x2 =>
 .hv (.st 3 x0 x2) fun x3 =>
 .rd (.ld true 3 x0) fun x4 =>
 .ret (.tuple ⟨[x4, (.int .i64 1)]⟩))
 (.pu (.bin .gtr a2 (.int .i64 65535)) fun x5 =>
 .ite x5
 (.pu (.bld [(.int .u32 0), (.int .u32 0), (.int .u64 0)] []) fun x6 =>
 .hv (.st 3 x0 x6) fun x7 =>
 .rd (.ld true 3 x0) fun x8 =>
 .ret (.tuple ⟨[x8, (.int .i64 1)]⟩))
 (.call 197 [a0] fun x9 =>
 .pu (.bin .eql x9 (.int .i64 0)) fun x10 =>
 .ite x10
 (.pu (.bld [(.int .u32 0), (.int .u32 0), (.int .u64 0)] []) fun x11 =>
 .hv (.st 3 x0 x11) fun x12 =>
 .rd (.ld true 3 x0) fun x13 =>
 .ret (.tuple ⟨[x13, (.int .i64 6)]⟩))
 (.pu (.nck a0) fun x14 =>
 .pu (.fad 1 x14) fun x15 =>
 .rd (.ld false 1 x15) fun x16 =>
 .pu (.bin .add x16 (.int .i64 1)) fun x17 =>
 .pu (.nck a0) fun x18 =>
 .pu (.fad 1 x18) fun x19 =>
 .hv (.st 1 x19 x17) fun x20 =>
 .draw 0 (.pu (.cvi .u32 a2) fun x21 =>
 .pu (.nck a0) fun x22 =>
 .pu (.fad 0 x22) fun x23 =>
 .rd (.ld false 1 x23) fun x24 =>
 .pu (.bin .shl x24 (.int .u64 32)) fun x25 =>
 .pu (.nck a0) fun x26 =>
 .pu (.fad 1 x26) fun x27 =>
 .rd (.ld false 1 x27) fun x28 =>
 .pu (.cvi .u64 x28) fun x29 =>
 .pu (.bin .add x25 x29) fun x30 =>
 .pu (.bld [(.int .u32 0), (.int .u32 0), (.int .u64 0)] [(0, 1, a1), (1, 1, x21), (2, 1, x30)]) fun x31 =>
 .fin 0 [x31]) fun u32 j33 =>
 .hv (.st 3 x0 (sl u32 0)) fun x34 =>
 .rd (.ld true 3 x0) fun x35 =>
 .ret (.tuple ⟨[x35, (.int .i64 0)]⟩))))
theorem d180 : ∀ (a0 a1 a2 : Value) , denF en [(2006, [42]), (3006, [0, 1, 2, 3, 4, 5, 6, 7, 8, 9, 10, 11, 12, 13, 14]), (4006, [15, 16])] Tryz.f180 [a0, a1, a2] = t180 a0 a1 a2 := by intros; kernel_rfl
theorem c180 {ro : HP} {S : List Asrt} {Q : Value → List Asrt → Prop} (a0 a1 a2 : Value) (h : WT Tryz.prog en.hb (t180 a0 a1 a2) false ro S Q fun _ _ _ => False) : Tri Tryz.prog ro 180 ⟨[a0, a1, a2]⟩ S Q :=
 tri_of_tree en_ok en_mixed Tryz.func180 (by rw [d180]; exact h)

/-- (*lockbox/lock.Lock).Seal -/
def t181 (a0 a1 a2 a3 a4 : Value) : Tr :=
 .al (.bx 90 a1) fun x0 =>
 .al (.bx 88 a2) fun x1 =>
 .al (.nw 235 [(.slice none 0 0), (.int .u64 0), (.int .u64 0)]) fun x2 =>
 .pu (.eqn .ptr false a0 (.pointer none)) fun x3 =>
 .ite x3
 (.pu (.bld [(.slice none 0 0), (.int .u64 0), (.int .u64 0)] []) fun x4 =>
 .hv (.st 3 x2 x4) fun x5 =>
 .rd (.ld true 3 x2) fun x6 =>
 .ret (.tuple ⟨[x6, (.bool false)]⟩))
 (.draw 0 (.pu (.nck a0) fun x7 =>
 .pu (.fad 0 x7) fun x8 =>
 .rd (.ld false 1 x8) fun x9 =>
 .rd (.ld true 2 x0) fun x10 =>
 .rd (.ld true 3 x1) fun x11 =>
 .callv x9 [x10, x11, a3, a4] fun x12 =>
 .pu (.ext x12 0) fun x13 =>
 .pu (.ext x12 1) fun x14 =>
 .fin 0 [x13, x14]) fun u15 j16 =>
 .hv (.st 3 x2 (sl u15 0)) fun x17 =>
 .rd (.ld true 3 x2) fun x18 =>
 .ret (.tuple ⟨[x18, (sl u15 1)]⟩))
theorem d181 : ∀ (a0 a1 a2 a3 a4 : Value) , denF en [(2003, [24, 25]), (3003, [0, 1, 2, 3, 4, 5, 6, 7, 8, 9, 10]), (4003, [11, 12])] Tryz.f181 [a0, a1, a2, a3, a4] = t181 a0 a1 a2 a3 a4 := by intros; kernel_rfl
theorem c181 {ro : HP} {S : List Asrt} {Q : Value → List Asrt → Prop} (a0 a1 a2 a3 a4 : Value) (h : WT Tryz.prog en.hb (t181 a0 a1 a2 a3 a4) false ro S Q fun _ _ _ => False) : Tri Tryz.prog ro 181 ⟨[a0, a1, a2, a3, a4]⟩ S Q :=
 tri_of_tree en_ok en_mixed Tryz.func181 (by rw [d181]; exact h)

/-- lockbox/root.PutRec -/
def t182 (a0 a1 : Value) : Tr :=
 .al (.bx 88 a0) fun x0 =>
 .al (.bx 235 a1) fun x1 =>
 .pu (.fad 0 x1) fun x2 =>
 .rd (.ld false 1 x2) fun x3 =>
 .pu (.len x3) fun x4 =>
 .pu (.bin .neq x4 (.int .i64 32)) fun x5 =>
 .ite x5
 (.ret (.tuple ⟨[(.slice none 0 0), (.bool false)]⟩))
 (.pu (.fad 1 x0) fun x6 =>
 .rd (.ld false 1 x6) fun x7 =>
 .pu (.bin .neq x7 (.int .u32 65535)) fun x8 =>
 .ite x8
 (.ret (.tuple ⟨[(.slice none 0 0), (.bool false)]⟩))
 (.draw 0 (.pu (.fad 0 x0) fun x9 =>
 .rd (.ld false 1 x9) fun x10 =>
 .pu (.cvi .u64 x10) fun x11 =>
 .call 240 [x11, (.int .i64 4)] fun x12 =>
 .pu (.fad 2 x0) fun x13 =>
 .rd (.ld false 1 x13) fun x14 =>
 .call 240 [x14, (.int .i64 8)] fun x15 =>
 .pu (.fad 0 x1) fun x16 =>
 .rd (.ld false 1 x16) fun x17 =>
 .pu (.fad 1 x1) fun x18 =>
 .rd (.ld true 2 x18) fun x19 =>
 .call 174 [x19] fun x20 =>
 .al (.bsl 55 1 4 [(.slice none 0 0)] [(0, 1, x12), (1, 1, x15), (2, 1, x17), (3, 1, x20)]) fun x21 =>
 .call 239 [x21] fun x22 =>
 .fin 0 [x22, (.bool true)]) fun u23 j24 =>
 .ret (.tuple ⟨[(sl u23 0), (sl u23 1)]⟩)))
theorem d182 : ∀ (a0 a1 : Value) , denF en [(2003, [4, 5])] Tryz.f182 [a0, a1] = t182 a0 a1 := by intros; kernel_rfl
theorem c182 {ro : HP} {S : List Asrt} {Q : Value → List Asrt → Prop} (a0 a1 : Value) (h : WT Tryz.prog en.hb (t182 a0 a1) false ro S Q fun _ _ _ => False) : Tri Tryz.prog ro 182 ⟨[a0, a1]⟩ S Q :=
 tri_of_tree en_ok en_mixed Tryz.func182 (by rw [d182]; exact h)

/-- lockbox/log.place -/
def t183 (a0 a1 : Value) : Tr :=
 .pu (.nck a0) fun x0 =>
 .pu (.fad 0 x0) fun x1 =>
 .rd (.ld true 1 x1) fun x2 =>
 .pu (.bin .rem a1 (.int .u64 2)) fun x3 =>
 .pu (.cvi .i64 x3) fun x4 =>
 .call 170 [x2, x4] fun x5 =>
 .ret x5
theorem d183 : ∀ (a0 a1 : Value) , denF en [] Tryz.f183 [a0, a1] = t183 a0 a1 := by intros; kernel_rfl
theorem c183 {ro : HP} {S : List Asrt} {Q : Value → List Asrt → Prop} (a0 a1 : Value) (h : WT Tryz.prog en.hb (t183 a0 a1) false ro S Q fun _ _ _ => False) : Tri Tryz.prog ro 183 ⟨[a0, a1]⟩ S Q :=
 tri_of_tree en_ok en_mixed Tryz.func183 (by rw [d183]; exact h)

/-- (*lockbox/ssd.SSD).Read -/
def t184 (a0 a1 a2 : Value) : Tr :=
 .call 113 [a0, a1, a2] fun x0 =>
 .pu (.un .not x0) fun x1 =>
 .ite x1
 (.ret (.tuple ⟨[(.slice none 0 0), (.bool false)]⟩))
 (.pu (.nck a0) fun x2 =>
 .pu (.fad 0 x2) fun x3 =>
 .rd (.ld false 1 x3) fun x4 =>
 .call 104 [x4] fun x5 =>
 .pu (.un .not x5) fun x6 =>
 .ite x6
 (.ret (.tuple ⟨[(.slice none 0 0), (.bool false)]⟩))
 (.call 40 [a0] fun x7 =>
 .pu (.bin .add a1 a2) fun x8 =>
 .pu (.slc 1 x7 (some a1) (some x8) none) fun x9 =>
 .ret (.tuple ⟨[x9, (.bool true)]⟩)))
theorem d184 : ∀ (a0 a1 a2 : Value) , denF en [] Tryz.f184 [a0, a1, a2] = t184 a0 a1 a2 := by intros; kernel_rfl
theorem c184 {ro : HP} {S : List Asrt} {Q : Value → List Asrt → Prop} (a0 a1 a2 : Value) (h : WT Tryz.prog en.hb (t184 a0 a1 a2) false ro S Q fun _ _ _ => False) : Tri Tryz.prog ro 184 ⟨[a0, a1, a2]⟩ S Q :=
 tri_of_tree en_ok en_mixed Tryz.func184 (by rw [d184]; exact h)

/-- lockbox/log.opened -/
def t185 (a0 a1 : Value) : Tr :=
 .al (.nw 176 [(.int .u64 0), (.int .u32 0), (.int .i64 0), (.int .u64 0), (.int .u64 0)]) fun x0 =>
 .call 252 [a1] fun x1 =>
 .pu (.ext x1 0) fun x2 =>
 .pu (.ext x1 1) fun x3 =>
 .pu (.ext x1 2) fun x4 =>
 .al (.nw 88 [(.int .u32 0), (.int .u32 0), (.int .u64 0)]) fun x5 =>
 .al (.nw 235 [(.slice none 0 0), (.int .u64 0), (.int .u64 0)]) fun x6 =>
 .hv (.st 3 x5 x2) fun x7 =>
 .hv (.st 3 x6 x3) fun x8 =>
 .draw 0 (.pu (.nck a0) fun x9 =>
 .pu (.fad 5 x9) fun x10 =>
 .rd (.ld false 1 x10) fun x11 =>
 .pu (.fad 0 x5) fun x12 =>
 .rd (.ld false 1 x12) fun x13 =>
 .call 155 [x11, x13] fun x14 =>
 .pu (.ext x14 0) fun x15 =>
 .pu (.ext x14 1) fun x16 =>
 .al (.nw 90 [(.int .u64 0), (.int .u64 0)]) fun x17 =>
 .hv (.st 2 x17 x15) fun x18 =>
 .fin 0 [x17, x16]) fun u19 j20 =>
 .draw 0 (.pu (.un .not x4) fun x21 =>
 .ite x21
 (.fin 0 [(.bool true)])
 (.pu (.un .not (sl u19 1)) fun x22 =>
 .ite x22
 (.fin 0 [(.bool true)])
 (.rd (.ld true 3 x5) fun x23 =>
 .call 253 [x23] fun x24 =>
 .pu (.nck a0) fun x25 =>
 .pu (.fad 4 x25) fun x26 =>
 .rd (.ld false 1 x26) fun x27 =>
 .call 254 [x27] fun x28 =>
 .pu (.bin .neq x24 x28) fun x29 =>
 .fin 0 [x29]))) fun u30 j31 =>
 .ite (sl u30 0)
 (.pu (.bld [(.int .u64 0), (.int .u32 0), (.int .i64 0), (.int .u64 0), (.int .u64 0)] []) fun x32 =>
 .hv (.st 5 x0 x32) fun x33 =>
 .rd (.ld true 5 x0) fun x34 =>
 .ret (.tuple ⟨[x34, (.bool false)]⟩))
 (.draw 0 (.pu (.nck a0) fun x35 =>
 .pu (.fad 6 x35) fun x36 =>
 .rd (.ld false 1 x36) fun x37 =>
 .rd (.ld true 2 (sl u19 0)) fun x38 =>
 .rd (.ld true 3 x5) fun x39 =>
 .rd (.ld true 3 x6) fun x40 =>
 .call 255 [x37, x38, x39, (.slice none 0 0), x40] fun x41 =>
 .pu (.ext x41 0) fun x42 =>
 .pu (.ext x41 1) fun x43 =>
 .fin 0 [x43, x42]) fun u44 j45 =>
 .pu (.un .not (sl u44 0)) fun x46 =>
 .ite x46
 (.pu (.bld [(.int .u64 0), (.int .u32 0), (.int .i64 0), (.int .u64 0), (.int .u64 0)] []) fun x47 =>
 .hv (.st 5 x0 x47) fun x48 =>
 .rd (.ld true 5 x0) fun x49 =>
 .ret (.tuple ⟨[x49, (.bool false)]⟩))
 (.call 256 [(sl u44 1)] fun x50 =>
 .pu (.ext x50 0) fun x51 =>
 .pu (.ext x50 1) fun x52 =>
 .hv (.st 5 x0 x51) fun x53 =>
 .rd (.ld true 5 x0) fun x54 =>
 .ret (.tuple ⟨[x54, x52]⟩)))
theorem d185 : ∀ (a0 a1 : Value) , denF en [(2002, [9, 27]), (3002, [0, 1, 2, 3, 4, 5, 6, 7, 8, 9, 10, 11]), (4002, [12]), (2003, [43]), (2005, [8, 11])] Tryz.f185 [a0, a1] = t185 a0 a1 := by intros; kernel_rfl
theorem c185 {ro : HP} {S : List Asrt} {Q : Value → List Asrt → Prop} (a0 a1 : Value) (h : WT Tryz.prog en.hb (t185 a0 a1) false ro S Q fun _ _ _ => False) : Tri Tryz.prog ro 185 ⟨[a0, a1]⟩ S Q :=
 tri_of_tree en_ok en_mixed Tryz.func185 (by rw [d185]; exact h)

/-- lockbox/leaf.Get -/
def t186 (a0 a1 : Value) : Tr :=
 .al (.nw 92 [(.int .i64 0), (.bool false), (.int .i64 0), (.int .u32 0), (.int .u32 0), (.int .u64 0), (.int .u64 0), (.int .u64 0)]) fun x0 =>
 .al (.bsl 3 1 6 [(.int .i64 0)] [(0, 1, (.int .i64 1)), (1, 1, (.int .i64 1)), (2, 1, (.int .i64 2)), (3, 1, (.int .i64 4)), (4, 1, (.int .i64 8)), (5, 1, (.int .i64 16))]) fun x1 =>
 .call 257 [a0, x1] fun x2 =>
 .pu (.ext x2 0) fun x3 =>
 .pu (.ext x2 1) fun x4 =>
 .pu (.un .not x4) fun x5 =>
 .ite x5
 (.pu (.bld [(.int .i64 0), (.bool false), (.int .i64 0), (.int .u32 0), (.int .u32 0), (.int .u64 0), (.int .u64 0), (.int .u64 0)] []) fun x6 =>
 .hv (.st 8 x0 x6) fun x7 =>
 .rd (.ld true 8 x0) fun x8 =>
 .ret (.tuple ⟨[x8, (.bool false)]⟩))
 (.al (.nw 92 [(.int .i64 0), (.bool false), (.int .i64 0), (.int .u32 0), (.int .u32 0), (.int .u64 0), (.int .u64 0), (.int .u64 0)]) fun x9 =>
 .al (.nw 338 [(.int .u64 0), (.int .u64 0), (.int .u64 0), (.int .u64 0), (.int .u64 0)]) fun x10 =>
 .loop 0 [(.int .i64 0)] (fun u11 j12 =>
 .pu (.bin .lss (sl u11 0) (.int .i64 5)) fun x13 =>
 .ite x13
 (.pu (.iad 1 x3 (sl u11 0)) fun x14 =>
 .rd (.ld false 1 x14) fun x15 =>
 .call 258 [x15] fun x16 =>
 .pu (.ext x16 0) fun x17 =>
 .pu (.ext x16 1) fun x18 =>
 .pu (.aad 5 1 x10 (sl u11 0)) fun x19 =>
 .hv (.st 1 x19 x17) fun x20 =>
 .pu (.bin .add (sl u11 0) (.int .i64 1)) fun x21 =>
 .fin 0 [x21])
 (.fin 1 [(sl u11 0)])) fun u22 j23 =>
 .draw 0 (.pu (.aad 5 1 x10 (.int .i64 0)) fun x24 =>
 .rd (.ld false 1 x24) fun x25 =>
 .pu (.cvi .i64 x25) fun x26 =>
 .pu (.aad 5 1 x10 (.int .i64 1)) fun x27 =>
 .rd (.ld false 1 x27) fun x28 =>
 .pu (.bin .eql x28 (.int .u64 1)) fun x29 =>
 .pu (.aad 5 1 x10 (.int .i64 2)) fun x30 =>
 .rd (.ld false 1 x30) fun x31 =>
 .pu (.cvi .i64 x31) fun x32 =>
 .pu (.fad 0 x9) fun x33 =>
 .hv (.st 1 x33 x26) fun x34 =>
 .pu (.fad 1 x9) fun x35 =>
 .hv (.st 1 x35 x29) fun x36 =>
 .fin 0 [x32]) fun u37 j38 =>
 .pu (.fad 2 x9) fun x39 =>
 .hv (.st 1 x39 (sl u37 0)) fun x40 =>
 .pu (.fad 0 x9) fun x41 =>
 .rd (.ld false 1 x41) fun x42 =>
 .pu (.bin .eql x42 (.int .i64 1)) fun x43 =>
 .ite x43
 (.pu (.cvi .u32 a1) fun x44 =>
 .pu (.fad 3 x9) fun x45 =>
 .pu (.fad 1 x45) fun x46 =>
 .hv (.st 1 x46 x44) fun x47 =>
 .draw 0 (.pu (.aad 5 1 x10 (.int .i64 3)) fun x48 =>
 .rd (.ld false 1 x48) fun x49 =>
 .pu (.cvi .u32 x49) fun x50 =>
 .pu (.aad 5 1 x10 (.int .i64 4)) fun x51 =>
 .rd (.ld false 1 x51) fun x52 =>
 .pu (.fad 3 x9) fun x53 =>
 .pu (.fad 0 x53) fun x54 =>
 .hv (.st 1 x54 x50) fun x55 =>
 .fin 0 [x52]) fun u56 j57 =>
 .pu (.fad 3 x9) fun x58 =>
 .pu (.fad 2 x58) fun x59 =>
 .hv (.st 1 x59 (sl u56 0)) fun x60 =>
 .pu (.iad 1 x3 (.int .i64 5)) fun x61 =>
 .rd (.ld false 1 x61) fun x62 =>
 .call 242 [x62] fun x63 =>
 .pu (.ext x63 0) fun x64 =>
 .pu (.ext x63 1) fun x65 =>
 .pu (.fad 6 x9) fun x66 =>
 .hv (.st 2 x66 x64) fun x67 =>
 .rd (.ld true 8 x9) fun x68 =>
 .call 172 [x68, a1] fun x69 =>
 .pu (.ext x69 0) fun x70 =>
 .pu (.ext x69 1) fun x71 =>
 .pu (.un .not x71) fun x72 =>
 .ite x72
 (.pu (.bld [(.int .i64 0), (.bool false), (.int .i64 0), (.int .u32 0), (.int .u32 0), (.int .u64 0), (.int .u64 0), (.int .u64 0)] []) fun x73 =>
 .hv (.st 8 x0 x73) fun x74 =>
 .rd (.ld true 8 x0) fun x75 =>
 .ret (.tuple ⟨[x75, (.bool false)]⟩))
 (.call 118 [x70, a0] fun x76 =>
 .pu (.un .not x76) fun x77 =>
 .ite x77
 (.pu (.bld [(.int .i64 0), (.bool false), (.int .i64 0), (.int .u32 0), (.int .u32 0), (.int .u64 0), (.int .u64 0), (.int .u64 0)] []) fun x78 =>
 .hv (.st 8 x0 x78) fun x79 =>
 .rd (.ld true 8 x0) fun x80 =>
 .ret (.tuple ⟨[x80, (.bool false)]⟩))
 (.rd (.ld true 8 x9) fun x81 =>
 .hv (.st 8 x0 x81) fun x82 =>
 .rd (.ld true 8 x0) fun x83 =>
 .ret (.tuple ⟨[x83, (.bool true)]⟩))))
 (.draw 0 (.pu (.aad 5 1 x10 (.int .i64 3)) fun x84 =>
 .rd (.ld false 1 x84) fun x85 =>
 .pu (.cvi .u32 x85) fun x86 =>
 .pu (.aad 5 1 x10 (.int .i64 4)) fun x87 =>
 .rd (.ld false 1 x87) fun x88 =>
 .pu (.fad 3 x9) fun x89 =>
 .pu (.fad 0 x89) fun x90 =>
 .hv (.st 1 x90 x86) fun x91 =>
 .fin 0 [x88]) fun u92 j93 =>
 .pu (.fad 3 x9) fun x94 =>
 .pu (.fad 2 x94) fun x95 =>
 .hv (.st 1 x95 (sl u92 0)) fun x96 =>
 .pu (.iad 1 x3 (.int .i64 5)) fun x97 =>
 .rd (.ld false 1 x97) fun x98 =>
 .call 242 [x98] fun x99 =>
 .pu (.ext x99 0) fun x100 =>
 .pu (.ext x99 1) fun x101 =>
 .pu (.fad 6 x9) fun x102 =>
 .hv (.st 2 x102 x100) fun x103 =>
 .rd (.ld true 8 x9) fun x104 =>
 .call 172 [x104, a1] fun x105 =>
 .pu (.ext x105 0) fun x106 =>
 .pu (.ext x105 1) fun x107 =>
 .pu (.un .not x107) fun x108 =>
 .ite x108
 (.pu (.bld [(.int .i64 0), (.bool false), (.int .i64 0), (.int .u32 0), (.int .u32 0), (.int .u64 0), (.int .u64 0), (.int .u64 0)] []) fun x109 =>
 .hv (.st 8 x0 x109) fun x110 =>
 .rd (.ld true 8 x0) fun x111 =>
 .ret (.tuple ⟨[x111, (.bool false)]⟩))
 (.call 118 [x106, a0] fun x112 =>
 .pu (.un .not x112) fun x113 =>
 .ite x113
 (.pu (.bld [(.int .i64 0), (.bool false), (.int .i64 0), (.int .u32 0), (.int .u32 0), (.int .u64 0), (.int .u64 0), (.int .u64 0)] []) fun x114 =>
 .hv (.st 8 x0 x114) fun x115 =>
 .rd (.ld true 8 x0) fun x116 =>
 .ret (.tuple ⟨[x116, (.bool false)]⟩))
 (.rd (.ld true 8 x9) fun x117 =>
 .hv (.st 8 x0 x117) fun x118 =>
 .rd (.ld true 8 x0) fun x119 =>
 .ret (.tuple ⟨[x119, (.bool true)]⟩)))))
theorem d186 : ∀ (a0 a1 : Value) , denF en [(0, [21]), (2011, [43]), (3011, [0, 1, 2, 3, 4, 5, 6, 7, 8, 9, 10, 11, 12]), (4011, [13, 14]), (2014, [58]), (3014, [0, 1, 2, 3, 4, 5, 6, 7]), (4014, [8, 9, 10])] Tryz.f186 [a0, a1] = t186 a0 a1 := by intros; kernel_rfl
theorem c186 {ro : HP} {S : List Asrt} {Q : Value → List Asrt → Prop} (a0 a1 : Value) (h : WT Tryz.prog en.hb (t186 a0 a1) false ro S Q fun _ _ _ => False) : Tri Tryz.prog ro 186 ⟨[a0, a1]⟩ S Q :=
 tri_of_tree en_ok en_mixed Tryz.func186 (by rw [d186]; exact h)

/-- (*lockbox/ssd.SSD).Crash$1 -/
def t187 (a0 a1 : Value) : Tr :=
 .rd (.ld false 1 a1) fun x0 =>
 .pu (.len x0) fun x1 =>
 .pu (.bin .lss a0 x1) fun x2 =>
 .ite x2
 (.rd (.ld false 1 a1) fun x3 =>
 .pu (.iad 1 x3 a0) fun x4 =>
 .rd (.ld false 1 x4) fun x5 =>
 .ret x5)
 (.ret (.bool false))
theorem d187 : ∀ (a0 a1 : Value) , denF en [] Tryz.f187 [a0, a1] = t187 a0 a1 := by intros; kernel_rfl
theorem c187 {ro : HP} {S : List Asrt} {Q : Value → List Asrt → Prop} (a0 a1 : Value) (h : WT Tryz.prog en.hb (t187 a0 a1) false ro S Q fun _ _ _ => False) : Tri Tryz.prog ro 187 ⟨[a0, a1]⟩ S Q :=
 tri_of_tree en_ok en_mixed Tryz.func187 (by rw [d187]; exact h)

/-- (*lockbox/nonce.Maker).Left -/
def t197 (a0 : Value) : Tr :=
 .pu (.eqn .ptr false a0 (.pointer none)) fun x0 =>
 .ite x0
 (.ret (.int .i64 0))
 (.pu (.nck a0) fun x1 =>
 .pu (.fad 1 x1) fun x2 =>
 .rd (.ld false 1 x2) fun x3 =>
 .pu (.bin .sub (.int .i64 100) x3) fun x4 =>
 .ret x4)
theorem d197 : ∀ (a0 : Value) , denF en [] Tryz.f197 [a0] = t197 a0 := by intros; kernel_rfl
theorem c197 {ro : HP} {S : List Asrt} {Q : Value → List Asrt → Prop} (a0 : Value) (h : WT Tryz.prog en.hb (t197 a0) false ro S Q fun _ _ _ => False) : Tri Tryz.prog ro 197 ⟨[a0]⟩ S Q :=
 tri_of_tree en_ok en_mixed Tryz.func197 (by rw [d197]; exact h)

/-- (*lockbox/keys.Keys).Add -/
def t202 (a0 : Value) : Tr :=
 .pu (.eqn .ptr false a0 (.pointer none)) fun x0 =>
 .ite x0
 (.ret (.bool false))
 (.pu (.nck a0) fun x1 =>
 .pu (.fad 0 x1) fun x2 =>
 .rd (.ld false 1 x2) fun x3 =>
 .call 110 [x3] fun x4 =>
 .pu (.un .not x4) fun x5 =>
 .ite x5
 (.ret (.bool false))
 (.draw 0 (.pu (.nck a0) fun x6 =>
 .pu (.fad 2 x6) fun x7 =>
 .rd (.ld false 1 x7) fun x8 =>
 .call 54 [a0] fun x9 =>
 .pu (.bin .add x9 (.int .u32 1)) fun x10 =>
 .al (.bsl 84 1 1 [(.int .u32 0)] [(0, 1, x10)]) fun x11 =>
 .hv (.app 84 1 4 [(.int .u32 0)] x8 x11) fun x12 =>
 .fin 0 [a0, x12]) fun u13 j14 =>
 .pu (.nck (sl u13 0)) fun x15 =>
 .pu (.fad 2 x15) fun x16 =>
 .hv (.st 1 x16 (sl u13 1)) fun x17 =>
 .ret (.bool true)))
theorem d202 : ∀ (a0 : Value) , denF en [(2003, [13, 22]), (3003, [0, 1, 2, 3, 4, 5, 6, 7, 8, 9]), (4003, [10, 11, 12])] Tryz.f202 [a0] = t202 a0 := by intros; kernel_rfl
theorem c202 {ro : HP} {S : List Asrt} {Q : Value → List Asrt → Prop} (a0 : Value) (h : WT Tryz.prog en.hb (t202 a0) false ro S Q fun _ _ _ => False) : Tri Tryz.prog ro 202 ⟨[a0]⟩ S Q :=
 tri_of_tree en_ok en_mixed Tryz.func202 (by rw [d202]; exact h)

/-- slices.Contains[[]uint32,uint32] -/
def t230 (a0 a1 : Value) : Tr :=
 .call 293 [a0, a1] fun x0 =>
 .pu (.bin .geq x0 (.int .i64 0)) fun x1 =>
 .ret x1
theorem d230 : ∀ (a0 a1 : Value) , denF en [] Tryz.f230 [a0, a1] = t230 a0 a1 := by intros; kernel_rfl
theorem c230 {ro : HP} {S : List Asrt} {Q : Value → List Asrt → Prop} (a0 a1 : Value) (h : WT Tryz.prog en.hb (t230 a0 a1) false ro S Q fun _ _ _ => False) : Tri Tryz.prog ro 230 ⟨[a0, a1]⟩ S Q :=
 tri_of_tree en_ok en_mixed Tryz.func230 (by rw [d230]; exact h)

/-- lockbox/keys.Of -/
def t231 (a0 a1 : Value) : Tr :=
 .al (.nw 90 [(.int .u64 0), (.int .u64 0)]) fun x0 =>
 .pu (.bld [(.int .u64 0), (.int .u64 0)] [(0, 1, a0), (1, 1, a0)]) fun x1 =>
 .pu (.cvi .u64 a1) fun x2 =>
 .pu (.bld [(.int .u64 0), (.int .u64 0)] [(0, 1, (.int .u64 0)), (1, 1, x2)]) fun x3 =>
 .call 294 [x1, x3] fun x4 =>
 .hv (.st 2 x0 x4) fun x5 =>
 .rd (.ld true 2 x0) fun x6 =>
 .ret x6
theorem d231 : ∀ (a0 a1 : Value) , denF en [] Tryz.f231 [a0, a1] = t231 a0 a1 := by intros; kernel_rfl
theorem c231 {ro : HP} {S : List Asrt} {Q : Value → List Asrt → Prop} (a0 a1 : Value) (h : WT Tryz.prog en.hb (t231 a0 a1) false ro S Q fun _ _ _ => False) : Tri Tryz.prog ro 231 ⟨[a0, a1]⟩ S Q :=
 tri_of_tree en_ok en_mixed Tryz.func231 (by rw [d231]; exact h)

/-- lockbox/leaf.isLba -/
def t233 (a0 : Value) : Tr :=
 .pu (.bin .geq a0 (.int .i64 0)) fun x0 =>
 .ite x0
 (.pu (.bin .lss a0 (.int .i64 32)) fun x1 =>
 .ret x1)
 (.ret (.bool false))
theorem d233 : ∀ (a0 : Value) , denF en [] Tryz.f233 [a0] = t233 a0 := by intros; kernel_rfl
theorem c233 {ro : HP} {S : List Asrt} {Q : Value → List Asrt → Prop} (a0 : Value) (h : WT Tryz.prog en.hb (t233 a0) false ro S Q fun _ _ _ => False) : Tri Tryz.prog ro 233 ⟨[a0]⟩ S Q :=
 tri_of_tree en_ok en_mixed Tryz.func233 (by rw [d233]; exact h)

/-- slices.Concat[[]byte,byte] -/
def t239 (a0 : Value) : Tr :=
 .pu (.len a0) fun x0 =>
 .loop 0 [(.int .i64 0), (.int .i64 0)] (fun u1 j2 =>
 .pu (.bin .lss (sl u1 1) x0) fun x3 =>
 .ite x3
 (.join 2 (.pu (.iad 1 a0 (sl u1 1)) fun x4 =>
 .rd (.ld false 1 x4) fun x5 =>
 .pu (.len x5) fun x6 =>
 .pu (.bin .add (sl u1 0) x6) fun x7 =>
 .pu (.bin .lss x7 (.int .i64 0)) fun x8 =>
 .ite x8
 (.pu (.mki 9 (.string ⟨⟨[108, 101, 110, 32, 111, 117, 116, 32, 111, 102, 32, 114, 97, 110, 103, 101]⟩⟩)) fun x9 =>
 .bad)
 (.fin 2 [x7])) fun u10 j11 =>
 .pu (.bin .add (sl u1 1) (.int .i64 1)) fun x12 =>
 .fin 0 [(sl u10 0), x12])
 (.fin 1 [(sl u1 0), (sl u1 1)])) fun u13 j14 =>
 .call 299 [(.slice none 0 0), (sl u13 0)] fun x15 =>
 .pu (.len a0) fun x16 =>
 .loop 0 [x15, (.int .i64 0)] (fun u17 j18 =>
 .pu (.bin .lss (sl u17 1) x16) fun x19 =>
 .ite x19
 (.pu (.iad 1 a0 (sl u17 1)) fun x20 =>
 .rd (.ld false 1 x20) fun x21 =>
 .hv (.app 5 1 1 [(.int .u8 0)] (sl u17 0) x21) fun x22 =>
 .pu (.bin .add (sl u17 1) (.int .i64 1)) fun x23 =>
 .fin 0 [x22, x23])
 (.fin 1 [(sl u17 0), (sl u17 1)])) fun u24 j25 =>
 .ret (sl u24 0)
theorem d239 : ∀ (a0 : Value) , denF en [(1, [3]), (0, [3, 11]), (2, [6, 27])] Tryz.f239 [a0] = t239 a0 := by intros; kernel_rfl
theorem c239 {ro : HP} {S : List Asrt} {Q : Value → List Asrt → Prop} (a0 : Value) (h : WT Tryz.prog en.hb (t239 a0) false ro S Q fun _ _ _ => False) : Tri Tryz.prog ro 239 ⟨[a0]⟩ S Q :=
 tri_of_tree en_ok en_mixed Tryz.func239 (by rw [d239]; exact h)

/-- lockbox/wire.Put -/
def t240 (a0 a1 : Value) : Tr :=
 .pu (.bin .lss a1 (.int .i64 1)) fun x0 =>
 .ite x0
 (.ret (.slice none 0 0))
 (.pu (.bin .gtr a1 (.int .i64 8)) fun x1 =>
 .ite x1
 (.ret (.slice none 0 0))
 (.al (.mks 5 1 1 [(.int .u8 0)] a1 a1) fun x2 =>
 .pu (.len x2) fun x3 =>
 .loop 0 [(.int .i64 0)] (fun u4 j5 =>
 .pu (.bin .lss (sl u4 0) x3) fun x6 =>
 .ite x6
 (.pu (.bin .sub a1 (.int .i64 1)) fun x7 =>
 .pu (.bin .sub x7 (sl u4 0)) fun x8 =>
 .pu (.bin .mul (.int .i64 8) x8) fun x9 =>
 .pu (.bin .shr a0 x9) fun x10 =>
 .pu (.cvi .u8 x10) fun x11 =>
 .pu (.iad 1 x2 (sl u4 0)) fun x12 =>
 .hv (.st 1 x12 x11) fun x13 =>
 .pu (.bin .add (sl u4 0) (.int .i64 1)) fun x14 =>
 .fin 0 [x14])
 (.fin 1 [(sl u4 0)])) fun u15 j16 =>
 .ret x2))
theorem d240 : ∀ (a0 a1 : Value) , denF en [(0, [17])] Tryz.f240 [a0, a1] = t240 a0 a1 := by intros; kernel_rfl
theorem c240 {ro : HP} {S : List Asrt} {Q : Value → List Asrt → Prop} (a0 a1 : Value) (h : WT Tryz.prog en.hb (t240 a0 a1) false ro S Q fun _ _ _ => False) : Tri Tryz.prog ro 240 ⟨[a0, a1]⟩ S Q :=
 tri_of_tree en_ok en_mixed Tryz.func240 (by rw [d240]; exact h)

/-- lockbox/wire.Pair -/
def t242 (a0 : Value) : Tr :=
 .al (.nw 90 [(.int .u64 0), (.int .u64 0)]) fun x0 =>
 .pu (.len a0) fun x1 =>
 .pu (.bin .neq x1 (.int .i64 16)) fun x2 =>
 .ite x2
 (.pu (.bld [(.int .u64 0), (.int .u64 0)] []) fun x3 =>
 .hv (.st 2 x0 x3) fun x4 =>
 .rd (.ld true 2 x0) fun x5 =>
 .ret (.tuple ⟨[x5, (.bool false)]⟩))
 (.pu (.slc 1 a0 none (some (.int .i64 8)) none) fun x6 =>
 .call 258 [x6] fun x7 =>
 .pu (.ext x7 0) fun x8 =>
 .pu (.ext x7 1) fun x9 =>
 .pu (.slc 1 a0 (some (.int .i64 8)) none none) fun x10 =>
 .call 258 [x10] fun x11 =>
 .pu (.ext x11 0) fun x12 =>
 .pu (.ext x11 1) fun x13 =>
 .pu (.bld [(.int .u64 0), (.int .u64 0)] [(0, 1, x8), (1, 1, x12)]) fun x14 =>
 .hv (.st 2 x0 x14) fun x15 =>
 .rd (.ld true 2 x0) fun x16 =>
 .ret (.tuple ⟨[x16, (.bool true)]⟩))
theorem d242 : ∀ (a0 : Value) , denF en [] Tryz.f242 [a0] = t242 a0 := by intros; kernel_rfl
theorem c242 {ro : HP} {S : List Asrt} {Q : Value → List Asrt → Prop} (a0 : Value) (h : WT Tryz.prog en.hb (t242 a0) false ro S Q fun _ _ _ => False) : Tri Tryz.prog ro 242 ⟨[a0]⟩ S Q :=
 tri_of_tree en_ok en_mixed Tryz.func242 (by rw [d242]; exact h)

/-- lockbox/oracle.told -/
def t244 (a0 : Value) : Tr :=
 .al (.bx 237 a0) fun x0 =>
 .al (.nw 237 [(.int .u64 0), (.int .u64 0), (.int .u32 0), (.int .u32 0), (.int .u64 0), (.slice none 0 0), (.slice none 0 0), (.slice none 0 0), (.int .u64 0), (.int .u64 0)]) fun x1 =>
 .draw 0 (.pu (.fad 5 x0) fun x2 =>
 .rd (.ld false 1 x2) fun x3 =>
 .call 111 [x3] fun x4 =>
 .pu (.fad 6 x0) fun x5 =>
 .rd (.ld false 1 x5) fun x6 =>
 .call 111 [x6] fun x7 =>
 .pu (.fad 7 x0) fun x8 =>
 .pu (.fad 0 x8) fun x9 =>
 .rd (.ld false 1 x9) fun x10 =>
 .call 111 [x10] fun x11 =>
 .pu (.fad 5 x0) fun x12 =>
 .fin 0 [x4, x7, x11, x12]) fun u13 j14 =>
 .hv (.st 1 (sl u13 3) (sl u13 0)) fun x15 =>
 .pu (.fad 6 x0) fun x16 =>
 .hv (.st 1 x16 (sl u13 1)) fun x17 =>
 .pu (.fad 7 x0) fun x18 =>
 .pu (.fad 0 x18) fun x19 =>
 .hv (.st 1 x19 (sl u13 2)) fun x20 =>
 .rd (.ld true 10 x0) fun x21 =>
 .hv (.st 10 x1 x21) fun x22 =>
 .rd (.ld true 10 x1) fun x23 =>
 .ret x23
theorem d244 : ∀ (a0 : Value) , denF en [(2001, [5, 8, 12, 13]), (3001, [0, 1, 2, 3, 4, 5, 6, 7, 8, 9, 10]), (4001, [11, 12, 13, 14, 15, 16])] Tryz.f244 [a0] = t244 a0 := by intros; kernel_rfl
theorem c244 {ro : HP} {S : List Asrt} {Q : Value → List Asrt → Prop} (a0 : Value) (h : WT Tryz.prog en.hb (t244 a0) false ro S Q fun _ _ _ => False) : Tri Tryz.prog ro 244 ⟨[a0]⟩ S Q :=
 tri_of_tree en_ok en_mixed Tryz.func244 (by rw [d244]; exact h)

/-- bytes.Repeat -/
def t245 (a0 a1 : Value) : Tr :=
 .pu (.bin .eql a1 (.int .i64 0)) fun x0 =>
 .ite x0
 (.al (.bsl 5 1 0 [(.int .u8 0)] []) fun x1 =>
 .ret x1)
 (.pu (.bin .lss a1 (.int .i64 0)) fun x2 =>
 .ite x2
 (.pu (.mki 9 (.string ⟨⟨[98, 121, 116, 101, 115, 58, 32, 110, 101, 103, 97, 116, 105, 118, 101, 32, 82, 101, 112, 101, 97, 116, 32, 99, 111, 117, 110, 116]⟩⟩)) fun x3 =>
 .bad)
 (.pu (.len a0) fun x4 =>
 .pu (.cvi .u64 x4) fun x5 =>
 .pu (.cvi .u64 a1) fun x6 =>
 .call 301 [x5, x6] fun x7 =>
 .pu (.ext x7 0) fun x8 =>
 .pu (.ext x7 1) fun x9 =>
 .pu (.bin .gtr x8 (.int .u64 0)) fun x10 =>
 .ite x10
 (.pu (.mki 9 (.string ⟨⟨[98, 121, 116, 101, 115, 58, 32, 82, 101, 112, 101, 97, 116, 32, 111, 117, 116, 112, 117, 116, 32, 108, 101, 110, 103, 116, 104, 32, 111, 118, 101, 114, 102, 108, 111, 119]⟩⟩)) fun x11 =>
 .bad)
 (.pu (.bin .gtr x9 (.int .u64 9223372036854775807)) fun x12 =>
 .ite x12
 (.pu (.mki 9 (.string ⟨⟨[98, 121, 116, 101, 115, 58, 32, 82, 101, 112, 101, 97, 116, 32, 111, 117, 116, 112, 117, 116, 32, 108, 101, 110, 103, 116, 104, 32, 111, 118, 101, 114, 102, 108, 111, 119]⟩⟩)) fun x13 =>
 .bad)
 (.pu (.cvi .i64 x9) fun x14 =>
 .pu (.len a0) fun x15 =>
 .pu (.bin .eql x15 (.int .i64 0)) fun x16 =>
 .ite x16
 (.al (.bsl 5 1 0 [(.int .u8 0)] []) fun x17 =>
 .ret x17)
 (.pu (.bin .gtr x14 (.int .i64 8192)) fun x18 =>
 .ite x18
 (.pu (.len a0) fun x19 =>
 .pu (.bin .quo (.int .i64 8192) x19) fun x20 =>
 .pu (.len a0) fun x21 =>
 .pu (.bin .mul x20 x21) fun x22 =>
 .pu (.bin .eql x22 (.int .i64 0)) fun x23 =>
 .ite x23
 (.pu (.len a0) fun x24 =>
 .hv (.mnz 5 x14) fun x25 =>
 .pu (.slc 1 x25 none (some x14) (some x14)) fun x26 =>
 .hv (.cpy 1 x26 a0) fun x27 =>
 .loop 0 [x27] (fun u28 j29 =>
 .pu (.bin .lss (sl u28 0) x14) fun x30 =>
 .ite x30
 (.pu (.mn (sl u28 0) x24) fun x31 =>
 .draw 2 (.pu (.slc 1 x26 (some (sl u28 0)) none none) fun x32 =>
 .pu (.slc 1 x26 none (some x31) none) fun x33 =>
 .hv (.cpy 1 x32 x33) fun x34 =>
 .pu (.bin .add (sl u28 0) x34) fun x35 =>
 .fin 2 [x35]) fun u36 j37 =>
 .fin 0 [(sl u36 0)])
 (.fin 1 [(sl u28 0)])) fun u38 j39 =>
 .ret x26)
 (.hv (.mnz 5 x14) fun x40 =>
 .pu (.slc 1 x40 none (some x14) (some x14)) fun x41 =>
 .hv (.cpy 1 x41 a0) fun x42 =>
 .loop 0 [x42] (fun u43 j44 =>
 .pu (.bin .lss (sl u43 0) x14) fun x45 =>
 .ite x45
 (.pu (.mn (sl u43 0) x22) fun x46 =>
 .draw 2 (.pu (.slc 1 x41 (some (sl u43 0)) none none) fun x47 =>
 .pu (.slc 1 x41 none (some x46) none) fun x48 =>
 .hv (.cpy 1 x47 x48) fun x49 =>
 .pu (.bin .add (sl u43 0) x49) fun x50 =>
 .fin 2 [x50]) fun u51 j52 =>
 .fin 0 [(sl u51 0)])
 (.fin 1 [(sl u43 0)])) fun u53 j54 =>
 .ret x41))
 (.hv (.mnz 5 x14) fun x55 =>
 .pu (.slc 1 x55 none (some x14) (some x14)) fun x56 =>
 .hv (.cpy 1 x56 a0) fun x57 =>
 .loop 0 [x57] (fun u58 j59 =>
 .pu (.bin .lss (sl u58 0) x14) fun x60 =>
 .ite x60
 (.pu (.mn (sl u58 0) x14) fun x61 =>
 .draw 2 (.pu (.slc 1 x56 (some (sl u58 0)) none none) fun x62 =>
 .pu (.slc 1 x56 none (some x61) none) fun x63 =>
 .hv (.cpy 1 x62 x63) fun x64 =>
 .pu (.bin .add (sl u58 0) x64) fun x65 =>
 .fin 2 [x65]) fun u66 j67 =>
 .fin 0 [(sl u66 0)])
 (.fin 1 [(sl u58 0)])) fun u68 j69 =>
 .ret x56))))))
theorem d245 : ∀ (a0 a1 : Value) , denF en [(2020, [10]), (0, [10])] Tryz.f245 [a0, a1] = t245 a0 a1 := by intros; kernel_rfl
theorem c245 {ro : HP} {S : List Asrt} {Q : Value → List Asrt → Prop} (a0 a1 : Value) (h : WT Tryz.prog en.hb (t245 a0 a1) false ro S Q fun _ _ _ => False) : Tri Tryz.prog ro 245 ⟨[a0, a1]⟩ S Q :=
 tri_of_tree en_ok en_mixed Tryz.func245 (by rw [d245]; exact h)

/-- (lockbox/geom.Geom).among -/
def t246 (a0 a1 a2 : Value) : Tr :=
 .al (.bx 39 a0) fun x0 =>
 .pu (.fad 0 x0) fun x1 =>
 .rd (.ld false 1 x1) fun x2 =>
 .call 91 [x2] fun x3 =>
 .ite x3
 (.pu (.bin .geq a1 (.int .i64 0)) fun x4 =>
 .ite x4
 (.pu (.bin .lss a1 a2) fun x5 =>
 .ret x5)
 (.ret (.bool false)))
 (.ret (.bool false))
theorem d246 : ∀ (a0 a1 a2 : Value) , denF en [] Tryz.f246 [a0, a1, a2] = t246 a0 a1 a2 := by intros; kernel_rfl
theorem c246 {ro : HP} {S : List Asrt} {Q : Value → List Asrt → Prop} (a0 a1 a2 : Value) (h : WT Tryz.prog en.hb (t246 a0 a1 a2) false ro S Q fun _ _ _ => False) : Tri Tryz.prog ro 246 ⟨[a0, a1, a2]⟩ S Q :=
 tri_of_tree en_ok en_mixed Tryz.func246 (by rw [d246]; exact h)

/-- (lockbox/geom.Geom).area -/
def t247 (a0 : Value) : Tr :=
 .al (.bx 39 a0) fun x0 =>
 .pu (.fad 0 x0) fun x1 =>
 .rd (.ld false 1 x1) fun x2 =>
 .pu (.bin .mul x2 (.int .i64 64)) fun x3 =>
 .ret x3
theorem d247 : ∀ (a0 : Value) , denF en [] Tryz.f247 [a0] = t247 a0 := by intros; kernel_rfl
theorem c247 {ro : HP} {S : List Asrt} {Q : Value → List Asrt → Prop} (a0 : Value) (h : WT Tryz.prog en.hb (t247 a0) false ro S Q fun _ _ _ => False) : Tri Tryz.prog ro 247 ⟨[a0]⟩ S Q :=
 tri_of_tree en_ok en_mixed Tryz.func247 (by rw [d247]; exact h)

/-- lockbox/tree.leafSum -/
def t248 (a0 a1 : Value) : Tr :=
 .al (.nw 90 [(.int .u64 0), (.int .u64 0)]) fun x0 =>
 .al (.bsl 5 1 1 [(.int .u8 0)] [(0, 1, (.int .u8 0))]) fun x1 =>
 .al (.bsl 55 1 2 [(.slice none 0 0)] [(0, 1, x1), (1, 1, a1)]) fun x2 =>
 .call 303 [a0, x2] fun x3 =>
 .hv (.st 2 x0 x3) fun x4 =>
 .rd (.ld true 2 x0) fun x5 =>
 .ret x5
theorem d248 : ∀ (a0 a1 : Value) , denF en [] Tryz.f248 [a0, a1] = t248 a0 a1 := by intros; kernel_rfl
theorem c248 {ro : HP} {S : List Asrt} {Q : Value → List Asrt → Prop} (a0 a1 : Value) (h : WT Tryz.prog en.hb (t248 a0 a1) false ro S Q fun _ _ _ => False) : Tri Tryz.prog ro 248 ⟨[a0, a1]⟩ S Q :=
 tri_of_tree en_ok en_mixed Tryz.func248 (by rw [d248]; exact h)

/-- lockbox/tree.nodeSum -/
def t249 (a0 a1 a2 : Value) : Tr :=
 .al (.bx 90 a1) fun x0 =>
 .al (.bx 90 a2) fun x1 =>
 .al (.nw 90 [(.int .u64 0), (.int .u64 0)]) fun x2 =>
 .draw 0 (.rd (.ld true 2 x0) fun x3 =>
 .rd (.ld true 2 x1) fun x4 =>
 .call 174 [x3] fun x5 =>
 .call 174 [x4] fun x6 =>
 .al (.bsl 5 1 1 [(.int .u8 0)] [(0, 1, (.int .u8 1))]) fun x7 =>
 .al (.bsl 55 1 3 [(.slice none 0 0)] [(0, 1, x7), (1, 1, x5), (2, 1, x6)]) fun x8 =>
 .call 303 [a0, x8] fun x9 =>
 .fin 0 [x9]) fun u10 j11 =>
 .hv (.st 2 x2 (sl u10 0)) fun x12 =>
 .rd (.ld true 2 x2) fun x13 =>
 .ret x13
theorem d249 : ∀ (a0 a1 a2 : Value) , denF en [(2001, [14]), (3001, [0, 2, 4, 3, 5, 1, 6, 7]), (4001, [8])] Tryz.f249 [a0, a1, a2] = t249 a0 a1 a2 := by intros; kernel_rfl
theorem c249 {ro : HP} {S : List Asrt} {Q : Value → List Asrt → Prop} (a0 a1 a2 : Value) (h : WT Tryz.prog en.hb (t249 a0 a1 a2) false ro S Q fun _ _ _ => False) : Tri Tryz.prog ro 249 ⟨[a0, a1, a2]⟩ S Q :=
 tri_of_tree en_ok en_mixed Tryz.func249 (by rw [d249]; exact h)

/-- (lockbox/geom.Geom).behind -/
def t250 (a0 a1 a2 : Value) : Tr :=
 .al (.bx 39 a0) fun x0 =>
 .rd (.ld true 1 x0) fun x1 =>
 .pu (.fad 0 x0) fun x2 =>
 .rd (.ld false 1 x2) fun x3 =>
 .pu (.bin .sub x3 (.int .i64 1)) fun x4 =>
 .callv a1 [x1, a2, x4] fun x5 =>
 .pu (.bin .add x5 (.int .i64 32)) fun x6 =>
 .ret x6
theorem d250 : ∀ (a0 a1 a2 : Value) , denF en [] Tryz.f250 [a0, a1, a2] = t250 a0 a1 a2 := by intros; kernel_rfl
theorem c250 {ro : HP} {S : List Asrt} {Q : Value → List Asrt → Prop} (a0 a1 a2 : Value) (h : WT Tryz.prog en.hb (t250 a0 a1 a2) false ro S Q fun _ _ _ => False) : Tri Tryz.prog ro 250 ⟨[a0, a1, a2]⟩ S Q :=
 tri_of_tree en_ok en_mixed Tryz.func250 (by rw [d250]; exact h)

/-- lockbox/root.isSlots -/
def t251 (a0 : Value) : Tr :=
 .pu (.bin .eql a0 (.int .i64 4)) fun x0 =>
 .ite x0
 (.ret (.bool true))
 (.pu (.bin .eql a0 (.int .i64 8)) fun x1 =>
 .ite x1
 (.ret (.bool true))
 (.pu (.bin .eql a0 (.int .i64 16)) fun x2 =>
 .ret x2))
theorem d251 : ∀ (a0 : Value) , denF en [] Tryz.f251 [a0] = t251 a0 := by intros; kernel_rfl
theorem c251 {ro : HP} {S : List Asrt} {Q : Value → List Asrt → Prop} (a0 : Value) (h : WT Tryz.prog en.hb (t251 a0) false ro S Q fun _ _ _ => False) : Tri Tryz.prog ro 251 ⟨[a0]⟩ S Q :=
 tri_of_tree en_ok en_mixed Tryz.func251 (by rw [d251]; exact h)

/-- lockbox/root.GetRec -/
def t252 (a0 : Value) : Tr :=
 .al (.nw 88 [(.int .u32 0), (.int .u32 0), (.int .u64 0)]) fun x0 =>
 .al (.nw 235 [(.slice none 0 0), (.int .u64 0), (.int .u64 0)]) fun x1 =>
 .al (.bsl 3 1 4 [(.int .i64 0)] [(0, 1, (.int .i64 4)), (1, 1, (.int .i64 8)), (2, 1, (.int .i64 32)), (3, 1, (.int .i64 16))]) fun x2 =>
 .call 257 [a0, x2] fun x3 =>
 .pu (.ext x3 0) fun x4 =>
 .pu (.ext x3 1) fun x5 =>
 .pu (.un .not x5) fun x6 =>
 .ite x6
 (.pu (.bld [(.int .u32 0), (.int .u32 0), (.int .u64 0)] []) fun x7 =>
 .pu (.bld [(.slice none 0 0), (.int .u64 0), (.int .u64 0)] []) fun x8 =>
 .hv (.st 3 x0 x7) fun x9 =>
 .hv (.st 3 x1 x8) fun x10 =>
 .rd (.ld true 3 x0) fun x11 =>
 .rd (.ld true 3 x1) fun x12 =>
 .ret (.tuple ⟨[x11, x12, (.bool false)]⟩))
 (.pu (.iad 1 x4 (.int .i64 0)) fun x13 =>
 .rd (.ld false 1 x13) fun x14 =>
 .call 258 [x14] fun x15 =>
 .pu (.ext x15 0) fun x16 =>
 .pu (.ext x15 1) fun x17 =>
 .pu (.iad 1 x4 (.int .i64 1)) fun x18 =>
 .rd (.ld false 1 x18) fun x19 =>
 .call 258 [x19] fun x20 =>
 .pu (.ext x20 0) fun x21 =>
 .pu (.ext x20 1) fun x22 =>
 .pu (.iad 1 x4 (.int .i64 3)) fun x23 =>
 .rd (.ld false 1 x23) fun x24 =>
 .call 242 [x24] fun x25 =>
 .pu (.ext x25 0) fun x26 =>
 .pu (.ext x25 1) fun x27 =>
 .al (.nw 90 [(.int .u64 0), (.int .u64 0)]) fun x28 =>
 .hv (.st 2 x28 x26) fun x29 =>
 .draw 0 (.pu (.cvi .u32 x16) fun x30 =>
 .pu (.bld [(.int .u32 0), (.int .u32 0), (.int .u64 0)] [(0, 1, x30), (1, 1, (.int .u32 65535)), (2, 1, x21)]) fun x31 =>
 .pu (.iad 1 x4 (.int .i64 2)) fun x32 =>
 .rd (.ld false 1 x32) fun x33 =>
 .rd (.ld true 2 x28) fun x34 =>
 .pu (.bld [(.slice none 0 0), (.int .u64 0), (.int .u64 0)] [(0, 1, x33), (1, 2, x34)]) fun x35 =>
 .hv (.st 3 x0 x31) fun x36 =>
 .fin 0 [x35]) fun u37 j38 =>
 .hv (.st 3 x1 (sl u37 0)) fun x39 =>
 .rd (.ld true 3 x0) fun x40 =>
 .rd (.ld true 3 x1) fun x41 =>
 .ret (.tuple ⟨[x40, x41, (.bool true)]⟩))
theorem d252 : ∀ (a0 : Value) , denF en [(2007, [52]), (3007, [0, 1, 2, 3, 4, 5, 6, 7, 8, 9]), (4007, [10, 11])] Tryz.f252 [a0] = t252 a0 := by intros; kernel_rfl
theorem c252 {ro : HP} {S : List Asrt} {Q : Value → List Asrt → Prop} (a0 : Value) (h : WT Tryz.prog en.hb (t252 a0) false ro S Q fun _ _ _ => False) : Tri Tryz.prog ro 252 ⟨[a0]⟩ S Q :=
 tri_of_tree en_ok en_mixed Tryz.func252 (by rw [d252]; exact h)

/-- lockbox/nonce.Boot -/
def t253 (a0 : Value) : Tr :=
 .al (.bx 88 a0) fun x0 =>
 .pu (.fad 2 x0) fun x1 =>
 .rd (.ld false 1 x1) fun x2 =>
 .pu (.bin .shr x2 (.int .u64 32)) fun x3 =>
 .ret x3
theorem d253 : ∀ (a0 : Value) , denF en [] Tryz.f253 [a0] = t253 a0 := by intros; kernel_rfl
theorem c253 {ro : HP} {S : List Asrt} {Q : Value → List Asrt → Prop} (a0 : Value) (h : WT Tryz.prog en.hb (t253 a0) false ro S Q fun _ _ _ => False) : Tri Tryz.prog ro 253 ⟨[a0]⟩ S Q :=
 tri_of_tree en_ok en_mixed Tryz.func253 (by rw [d253]; exact h)

/-- (*lockbox/count.Counter).At -/
def t254 (a0 : Value) : Tr :=
 .pu (.eqn .ptr false a0 (.pointer none)) fun x0 =>
 .ite x0
 (.ret (.int .u64 0))
 (.pu (.nck a0) fun x1 =>
 .pu (.fad 3 x1) fun x2 =>
 .rd (.ld false 1 x2) fun x3 =>
 .ret x3)
theorem d254 : ∀ (a0 : Value) , denF en [] Tryz.f254 [a0] = t254 a0 := by intros; kernel_rfl
theorem c254 {ro : HP} {S : List Asrt} {Q : Value → List Asrt → Prop} (a0 : Value) (h : WT Tryz.prog en.hb (t254 a0) false ro S Q fun _ _ _ => False) : Tri Tryz.prog ro 254 ⟨[a0]⟩ S Q :=
 tri_of_tree en_ok en_mixed Tryz.func254 (by rw [d254]; exact h)

/-- (*lockbox/lock.Lock).Open -/
def t255 (a0 a1 a2 a3 a4 : Value) : Tr :=
 .al (.bx 90 a1) fun x0 =>
 .al (.bx 88 a2) fun x1 =>
 .al (.bx 235 a4) fun x2 =>
 .pu (.eqn .ptr false a0 (.pointer none)) fun x3 =>
 .ite x3
 (.ret (.tuple ⟨[(.slice none 0 0), (.bool false)]⟩))
 (.draw 0 (.pu (.nck a0) fun x4 =>
 .pu (.fad 1 x4) fun x5 =>
 .rd (.ld false 1 x5) fun x6 =>
 .rd (.ld true 2 x0) fun x7 =>
 .rd (.ld true 3 x1) fun x8 =>
 .rd (.ld true 3 x2) fun x9 =>
 .callv x6 [x7, x8, a3, x9] fun x10 =>
 .pu (.ext x10 0) fun x11 =>
 .pu (.ext x10 1) fun x12 =>
 .fin 0 [x11, x12]) fun u13 j14 =>
 .ret (.tuple ⟨[(sl u13 0), (sl u13 1)]⟩))
theorem d255 : ∀ (a0 a1 a2 a3 a4 : Value) , denF en [(2003, [10, 11])] Tryz.f255 [a0, a1, a2, a3, a4] = t255 a0 a1 a2 a3 a4 := by intros; kernel_rfl
theorem c255 {ro : HP} {S : List Asrt} {Q : Value → List Asrt → Prop} (a0 a1 a2 a3 a4 : Value) (h : WT Tryz.prog en.hb (t255 a0 a1 a2 a3 a4) false ro S Q fun _ _ _ => False) : Tri Tryz.prog ro 255 ⟨[a0, a1, a2, a3, a4]⟩ S Q :=
 tri_of_tree en_ok en_mixed Tryz.func255 (by rw [d255]; exact h)

/-- lockbox/root.Get -/
def t256 (a0 : Value) : Tr :=
 .al (.nw 176 [(.int .u64 0), (.int .u32 0), (.int .i64 0), (.int .u64 0), (.int .u64 0)]) fun x0 =>
 .al (.bsl 3 1 4 [(.int .i64 0)] [(0, 1, (.int .i64 8)), (1, 1, (.int .i64 4)), (2, 1, (.int .i64 4)), (3, 1, (.int .i64 16))]) fun x1 =>
 .call 257 [a0, x1] fun x2 =>
 .pu (.ext x2 0) fun x3 =>
 .pu (.ext x2 1) fun x4 =>
 .pu (.un .not x4) fun x5 =>
 .ite x5
 (.pu (.bld [(.int .u64 0), (.int .u32 0), (.int .i64 0), (.int .u64 0), (.int .u64 0)] []) fun x6 =>
 .hv (.st 5 x0 x6) fun x7 =>
 .rd (.ld true 5 x0) fun x8 =>
 .ret (.tuple ⟨[x8, (.bool false)]⟩))
 (.pu (.iad 1 x3 (.int .i64 0)) fun x9 =>
 .rd (.ld false 1 x9) fun x10 =>
 .call 258 [x10] fun x11 =>
 .pu (.ext x11 0) fun x12 =>
 .pu (.ext x11 1) fun x13 =>
 .pu (.iad 1 x3 (.int .i64 1)) fun x14 =>
 .rd (.ld false 1 x14) fun x15 =>
 .call 258 [x15] fun x16 =>
 .pu (.ext x16 0) fun x17 =>
 .pu (.ext x16 1) fun x18 =>
 .pu (.iad 1 x3 (.int .i64 2)) fun x19 =>
 .rd (.ld false 1 x19) fun x20 =>
 .call 258 [x20] fun x21 =>
 .pu (.ext x21 0) fun x22 =>
 .pu (.ext x21 1) fun x23 =>
 .pu (.iad 1 x3 (.int .i64 3)) fun x24 =>
 .rd (.ld false 1 x24) fun x25 =>
 .call 242 [x25] fun x26 =>
 .pu (.ext x26 0) fun x27 =>
 .pu (.ext x26 1) fun x28 =>
 .al (.nw 90 [(.int .u64 0), (.int .u64 0)]) fun x29 =>
 .hv (.st 2 x29 x27) fun x30 =>
 .pu (.cvi .i64 x22) fun x31 =>
 .call 251 [x31] fun x32 =>
 .pu (.un .not x32) fun x33 =>
 .ite x33
 (.pu (.bld [(.int .u64 0), (.int .u32 0), (.int .i64 0), (.int .u64 0), (.int .u64 0)] []) fun x34 =>
 .hv (.st 5 x0 x34) fun x35 =>
 .rd (.ld true 5 x0) fun x36 =>
 .ret (.tuple ⟨[x36, (.bool false)]⟩))
 (.pu (.cvi .u32 x17) fun x37 =>
 .pu (.cvi .i64 x22) fun x38 =>
 .rd (.ld true 2 x29) fun x39 =>
 .pu (.bld [(.int .u64 0), (.int .u32 0), (.int .i64 0), (.int .u64 0), (.int .u64 0)] [(0, 1, x12), (1, 1, x37), (2, 1, x38), (3, 2, x39)]) fun x40 =>
 .hv (.st 5 x0 x40) fun x41 =>
 .rd (.ld true 5 x0) fun x42 =>
 .ret (.tuple ⟨[x42, (.bool true)]⟩)))
theorem d256 : ∀ (a0 : Value) , denF en [] Tryz.f256 [a0] = t256 a0 := by intros; kernel_rfl
theorem c256 {ro : HP} {S : List Asrt} {Q : Value → List Asrt → Prop} (a0 : Value) (h : WT Tryz.prog en.hb (t256 a0) false ro S Q fun _ _ _ => False) : Tri Tryz.prog ro 256 ⟨[a0]⟩ S Q :=
 tri_of_tree en_ok en_mixed Tryz.func256 (by rw [d256]; exact h)

/-- lockbox/wire.Cut -/
def t257 (a0 a1 : Value) : Tr :=
 .al (.bsl 55 1 0 [(.slice none 0 0)] []) fun x0 =>
 .pu (.len a1) fun x1 =>
 .loop 0 [a0, x0, (.int .i64 0)] (fun u2 j3 =>
 .pu (.bin .lss (sl u2 2) x1) fun x4 =>
 .ite x4
 (.pu (.iad 1 a1 (sl u2 2)) fun x5 =>
 .rd (.ld false 1 x5) fun x6 =>
 .pu (.bin .lss x6 (.int .i64 0)) fun x7 =>
 .ite x7
 (.ret (.tuple ⟨[(.slice none 0 0), (.bool false)]⟩))
 (.pu (.len (sl u2 0)) fun x8 =>
 .pu (.bin .gtr x6 x8) fun x9 =>
 .ite x9
 (.ret (.tuple ⟨[(.slice none 0 0), (.bool false)]⟩))
 (.pu (.slc 1 (sl u2 0) none (some x6) none) fun x10 =>
 .call 111 [x10] fun x11 =>
 .al (.bsl 55 1 1 [(.slice none 0 0)] [(0, 1, x11)]) fun x12 =>
 .hv (.app 55 1 24 [(.slice none 0 0)] (sl u2 1) x12) fun x13 =>
 .pu (.slc 1 (sl u2 0) (some x6) none none) fun x14 =>
 .pu (.bin .add (sl u2 2) (.int .i64 1)) fun x15 =>
 .fin 0 [x14, x13, x15])))
 (.fin 1 [(sl u2 0), (sl u2 1), (sl u2 2)])) fun u16 j17 =>
 .pu (.len (sl u16 0)) fun x18 =>
 .pu (.bin .gtr x18 (.int .i64 0)) fun x19 =>
 .ite x19
 (.ret (.tuple ⟨[(.slice none 0 0), (.bool false)]⟩))
 (.ret (.tuple ⟨[(sl u16 1), (.bool true)]⟩))
theorem d257 : ∀ (a0 a1 : Value) , denF en [(0, [0, 6, 12])] Tryz.f257 [a0, a1] = t257 a0 a1 := by intros; kernel_rfl
theorem c257 {ro : HP} {S : List Asrt} {Q : Value → List Asrt → Prop} (a0 a1 : Value) (h : WT Tryz.prog en.hb (t257 a0 a1) false ro S Q fun _ _ _ => False) : Tri Tryz.prog ro 257 ⟨[a0, a1]⟩ S Q :=
 tri_of_tree en_ok en_mixed Tryz.func257 (by rw [d257]; exact h)

/-- lockbox/wire.Get -/
def t258 (a0 : Value) : Tr :=
 .pu (.len a0) fun x0 =>
 .pu (.bin .lss x0 (.int .i64 1)) fun x1 =>
 .ite x1
 (.ret (.tuple ⟨[(.int .u64 0), (.bool false)]⟩))
 (.pu (.len a0) fun x2 =>
 .pu (.bin .gtr x2 (.int .i64 8)) fun x3 =>
 .ite x3
 (.ret (.tuple ⟨[(.int .u64 0), (.bool false)]⟩))
 (.pu (.len a0) fun x4 =>
 .loop 0 [(.int .u64 0), (.int .i64 0)] (fun u5 j6 =>
 .pu (.bin .lss (sl u5 1) x4) fun x7 =>
 .ite x7
 (.pu (.iad 1 a0 (sl u5 1)) fun x8 =>
 .rd (.ld false 1 x8) fun x9 =>
 .pu (.bin .shl (sl u5 0) (.int .u64 8)) fun x10 =>
 .pu (.cvi .u64 x9) fun x11 =>
 .pu (.bin .or x10 x11) fun x12 =>
 .pu (.bin .add (sl u5 1) (.int .i64 1)) fun x13 =>
 .fin 0 [x12, x13])
 (.fin 1 [(sl u5 0), (sl u5 1)])) fun u14 j15 =>
 .ret (.tuple ⟨[(sl u14 0), (.bool true)]⟩)))
theorem d258 : ∀ (a0 : Value) , denF en [(0, [4, 17])] Tryz.f258 [a0] = t258 a0 := by intros; kernel_rfl
theorem c258 {ro : HP} {S : List Asrt} {Q : Value → List Asrt → Prop} (a0 : Value) (h : WT Tryz.prog en.hb (t258 a0) false ro S Q fun _ _ _ => False) : Tri Tryz.prog ro 258 ⟨[a0]⟩ S Q :=
 tri_of_tree en_ok en_mixed Tryz.func258 (by rw [d258]; exact h)

/-- (*lockbox/keys.Keys).Erase -/
def t263 (a0 a1 : Value) : Tr :=
 .al (.bx 84 a1) fun x0 =>
 .pu (.eqn .ptr false a0 (.pointer none)) fun x1 =>
 .ite x1
 (.ret (.bool false))
 (.pu (.nck a0) fun x2 =>
 .pu (.fad 0 x2) fun x3 =>
 .rd (.ld false 1 x3) fun x4 =>
 .call 110 [x4] fun x5 =>
 .pu (.un .not x5) fun x6 =>
 .ite x6
 (.ret (.bool false))
 (.call 54 [a0] fun x7 =>
 .al (.nw 84 [(.int .u32 0)]) fun x8 =>
 .hv (.st 1 x8 x7) fun x9 =>
 .pu (.nck a0) fun x10 =>
 .pu (.fad 2 x10) fun x11 =>
 .rd (.ld false 1 x11) fun x12 =>
 .call 305 [x12, (.func (.func 306) ⟨[]⟩ ⟨[x0, x8]⟩)] fun x13 =>
 .pu (.nck a0) fun x14 =>
 .pu (.fad 2 x14) fun x15 =>
 .hv (.st 1 x15 x13) fun x16 =>
 .ret (.bool true)))
theorem d263 : ∀ (a0 a1 : Value) , denF en [] Tryz.f263 [a0, a1] = t263 a0 a1 := by intros; kernel_rfl
theorem c263 {ro : HP} {S : List Asrt} {Q : Value → List Asrt → Prop} (a0 a1 : Value) (h : WT Tryz.prog en.hb (t263 a0 a1) false ro S Q fun _ _ _ => False) : Tri Tryz.prog ro 263 ⟨[a0, a1]⟩ S Q :=
 tri_of_tree en_ok en_mixed Tryz.func263 (by rw [d263]; exact h)

/-- slices.Index[[]uint32,uint32] -/
def t293 (a0 a1 : Value) : Tr :=
 .pu (.len a0) fun x0 =>
 .loop 0 [(.int .i64 0)] (fun u1 j2 =>
 .pu (.bin .lss (sl u1 0) x0) fun x3 =>
 .ite x3
 (.pu (.iad 1 a0 (sl u1 0)) fun x4 =>
 .rd (.ld false 1 x4) fun x5 =>
 .pu (.bin .eql a1 x5) fun x6 =>
 .ite x6
 (.ret (sl u1 0))
 (.pu (.bin .add (sl u1 0) (.int .i64 1)) fun x7 =>
 .fin 0 [x7]))
 (.fin 1 [(sl u1 0)])) fun u8 j9 =>
 .ret (.int .i64 (-1))
theorem d293 : ∀ (a0 a1 : Value) , denF en [(0, [8])] Tryz.f293 [a0, a1] = t293 a0 a1 := by intros; kernel_rfl
theorem c293 {ro : HP} {S : List Asrt} {Q : Value → List Asrt → Prop} (a0 a1 : Value) (h : WT Tryz.prog en.hb (t293 a0 a1) false ro S Q fun _ _ _ => False) : Tri Tryz.prog ro 293 ⟨[a0, a1]⟩ S Q :=
 tri_of_tree en_ok en_mixed Tryz.func293 (by rw [d293]; exact h)

/-- lockbox/speck.Encrypt -/
def t294 (a0 a1 : Value) : Tr :=
 .al (.bx 90 a0) fun x0 =>
 .al (.bx 90 a1) fun x1 =>
 .al (.nw 90 [(.int .u64 0), (.int .u64 0)]) fun x2 =>
 .draw 0 (.pu (.aad 2 1 x1 (.int .i64 0)) fun x3 =>
 .rd (.ld false 1 x3) fun x4 =>
 .pu (.aad 2 1 x1 (.int .i64 1)) fun x5 =>
 .rd (.ld false 1 x5) fun x6 =>
 .fin 0 [x4, x6]) fun u7 j8 =>
 .rd (.ld true 2 x0) fun x9 =>
 .call 324 [x9] fun x10 =>
 .pu (.len x10) fun x11 =>
 .loop 0 [(sl u7 0), (sl u7 1), (.int .i64 0)] (fun u12 j13 =>
 .pu (.bin .lss (sl u12 2) x11) fun x14 =>
 .ite x14
 (.pu (.iad 1 x10 (sl u12 2)) fun x15 =>
 .rd (.ld false 1 x15) fun x16 =>
 .call 325 [(sl u12 0), (sl u12 1), x16] fun x17 =>
 .pu (.ext x17 0) fun x18 =>
 .pu (.ext x17 1) fun x19 =>
 .pu (.bin .add (sl u12 2) (.int .i64 1)) fun x20 =>
 .fin 0 [x18, x19, x20])
 (.fin 1 [(sl u12 0), (sl u12 1), (sl u12 2)])) fun u21 j22 =>
 .pu (.bld [(.int .u64 0), (.int .u64 0)] [(0, 1, (sl u21 0)), (1, 1, (sl u21 1))]) fun x23 =>
 .hv (.st 2 x2 x23) fun x24 =>
 .rd (.ld true 2 x2) fun x25 =>
 .ret x25
theorem d294 : ∀ (a0 a1 : Value) , denF en [(2001, [5, 6]), (0, [5, 6, 16])] Tryz.f294 [a0, a1] = t294 a0 a1 := by intros; kernel_rfl
theorem c294 {ro : HP} {S : List Asrt} {Q : Value → List Asrt → Prop} (a0 a1 : Value) (h : WT Tryz.prog en.hb (t294 a0 a1) false ro S Q fun _ _ _ => False) : Tri Tryz.prog ro 294 ⟨[a0, a1]⟩ S Q :=
 tri_of_tree en_ok en_mixed Tryz.func294 (by rw [d294]; exact h)

/-- slices.Grow[[]byte,byte] -/
def t299 (a0 a1 : Value) : Tr :=
 .pu (.bin .lss a1 (.int .i64 0)) fun x0 =>
 .ite x0
 (.pu (.mki 9 (.string ⟨⟨[99, 97, 110, 110, 111, 116, 32, 98, 101, 32, 110, 101, 103, 97, 116, 105, 118, 101]⟩⟩)) fun x1 =>
 .bad)
 (.pu (.cap a0) fun x2 =>
 .pu (.len a0) fun x3 =>
 .pu (.bin .sub x2 x3) fun x4 =>
 .pu (.bin .sub a1 x4) fun x5 =>
 .pu (.bin .gtr x5 (.int .i64 0)) fun x6 =>
 .ite x6
 (.pu (.cap a0) fun x7 =>
 .pu (.slc 1 a0 none (some x7) none) fun x8 =>
 .hv (.apz 5 1 1 [(.int .u8 0)] x8 x5) fun x9 =>
 .pu (.len a0) fun x10 =>
 .pu (.slc 1 x9 none (some x10) none) fun x11 =>
 .ret x11)
 (.ret a0))
theorem d299 : ∀ (a0 a1 : Value) , denF en [] Tryz.f299 [a0, a1] = t299 a0 a1 := by intros; kernel_rfl
theorem c299 {ro : HP} {S : List Asrt} {Q : Value → List Asrt → Prop} (a0 a1 : Value) (h : WT Tryz.prog en.hb (t299 a0 a1) false ro S Q fun _ _ _ => False) : Tri Tryz.prog ro 299 ⟨[a0, a1]⟩ S Q :=
 tri_of_tree en_ok en_mixed Tryz.func299 (by rw [d299]; exact h)

/-- math/bits.Mul -/
def t301 (a0 a1 : Value) : Tr :=
 .call 331 [a0, a1] fun x0 =>
 .pu (.ext x0 0) fun x1 =>
 .pu (.ext x0 1) fun x2 =>
 .ret (.tuple ⟨[x1, x2]⟩)
theorem d301 : ∀ (a0 a1 : Value) , denF en [] Tryz.f301 [a0, a1] = t301 a0 a1 := by intros; kernel_rfl
theorem c301 {ro : HP} {S : List Asrt} {Q : Value → List Asrt → Prop} (a0 a1 : Value) (h : WT Tryz.prog en.hb (t301 a0 a1) false ro S Q fun _ _ _ => False) : Tri Tryz.prog ro 301 ⟨[a0, a1]⟩ S Q :=
 tri_of_tree en_ok en_mixed Tryz.func301 (by rw [d301]; exact h)

/-- (*lockbox/lock.Lock).Sum -/
def t303 (a0 a1 : Value) : Tr :=
 .al (.nw 90 [(.int .u64 0), (.int .u64 0)]) fun x0 =>
 .pu (.eqn .ptr false a0 (.pointer none)) fun x1 =>
 .ite x1
 (.pu (.bld [(.int .u64 0), (.int .u64 0)] []) fun x2 =>
 .hv (.st 2 x0 x2) fun x3 =>
 .rd (.ld true 2 x0) fun x4 =>
 .ret x4)
 (.pu (.nck a0) fun x5 =>
 .pu (.fad 2 x5) fun x6 =>
 .rd (.ld false 1 x6) fun x7 =>
 .callv x7 [a1] fun x8 =>
 .hv (.st 2 x0 x8) fun x9 =>
 .rd (.ld true 2 x0) fun x10 =>
 .ret x10)
theorem d303 : ∀ (a0 a1 : Value) , denF en [] Tryz.f303 [a0, a1] = t303 a0 a1 := by intros; kernel_rfl
theorem c303 {ro : HP} {S : List Asrt} {Q : Value → List Asrt → Prop} (a0 a1 : Value) (h : WT Tryz.prog en.hb (t303 a0 a1) false ro S Q fun _ _ _ => False) : Tri Tryz.prog ro 303 ⟨[a0, a1]⟩ S Q :=
 tri_of_tree en_ok en_mixed Tryz.func303 (by rw [d303]; exact h)

/-- slices.DeleteFunc[[]uint32,uint32] -/
def t305 (a0 a1 : Value) : Tr :=
 .call 332 [a0, a1] fun x0 =>
 .pu (.bin .eql x0 (.int .i64 (-1))) fun x1 =>
 .ite x1
 (.ret a0)
 (.pu (.bin .add x0 (.int .i64 1)) fun x2 =>
 .loop 0 [x0, x2] (fun u3 j4 =>
 .pu (.len a0) fun x5 =>
 .pu (.bin .lss (sl u3 1) x5) fun x6 =>
 .ite x6
 (.join 2 (.pu (.iad 1 a0 (sl u3 1)) fun x7 =>
 .rd (.ld false 1 x7) fun x8 =>
 .callv a1 [x8] fun x9 =>
 .pu (.un .not x9) fun x10 =>
 .ite x10
 (.pu (.iad 1 a0 (sl u3 0)) fun x11 =>
 .hv (.st 1 x11 x8) fun x12 =>
 .pu (.bin .add (sl u3 0) (.int .i64 1)) fun x13 =>
 .fin 2 [x13])
 (.fin 2 [(sl u3 0)])) fun u14 j15 =>
 .pu (.bin .add (sl u3 1) (.int .i64 1)) fun x16 =>
 .fin 0 [(sl u14 0), x16])
 (.fin 1 [(sl u3 0), (sl u3 1)])) fun u17 j18 =>
 .pu (.slc 1 a0 (some (sl u17 0)) none none) fun x19 =>
 .hv (.clr 1 [(.int .u32 0)] x19) fun x20 =>
 .pu (.slc 1 a0 none (some (sl u17 0)) none) fun x21 =>
 .ret x21)
theorem d305 : ∀ (a0 a1 : Value) , denF en [(1, [5]), (0, [5, 6])] Tryz.f305 [a0, a1] = t305 a0 a1 := by intros; kernel_rfl
theorem c305 {ro : HP} {S : List Asrt} {Q : Value → List Asrt → Prop} (a0 a1 : Value) (h : WT Tryz.prog en.hb (t305 a0 a1) false ro S Q fun _ _ _ => False) : Tri Tryz.prog ro 305 ⟨[a0, a1]⟩ S Q :=
 tri_of_tree en_ok en_mixed Tryz.func305 (by rw [d305]; exact h)

/-- (*lockbox/keys.Keys).Erase$1 -/
def t306 (a0 a1 a2 : Value) : Tr :=
 .rd (.ld false 1 a1) fun x0 =>
 .pu (.bin .lss a0 x0) fun x1 =>
 .ite x1
 (.rd (.ld false 1 a2) fun x2 =>
 .pu (.bin .neq a0 x2) fun x3 =>
 .ret x3)
 (.ret (.bool false))
theorem d306 : ∀ (a0 a1 a2 : Value) , denF en [] Tryz.f306 [a0, a1, a2] = t306 a0 a1 a2 := by intros; kernel_rfl
theorem c306 {ro : HP} {S : List Asrt} {Q : Value → List Asrt → Prop} (a0 a1 a2 : Value) (h : WT Tryz.prog en.hb (t306 a0 a1 a2) false ro S Q fun _ _ _ => False) : Tri Tryz.prog ro 306 ⟨[a0, a1, a2]⟩ S Q :=
 tri_of_tree en_ok en_mixed Tryz.func306 (by rw [d306]; exact h)

/-- lockbox/speck.Keys -/
def t324 (a0 : Value) : Tr :=
 .al (.bx 90 a0) fun x0 =>
 .draw 0 (.pu (.aad 2 1 x0 (.int .i64 0)) fun x1 =>
 .rd (.ld false 1 x1) fun x2 =>
 .pu (.aad 2 1 x0 (.int .i64 1)) fun x3 =>
 .rd (.ld false 1 x3) fun x4 =>
 .fin 0 [x2, x4]) fun u5 j6 =>
 .loop 0 [(sl u5 0), (sl u5 1), (.slice none 0 0), (.int .u64 0)] (fun u7 j8 =>
 .pu (.bin .lss (sl u7 3) (.int .u64 32)) fun x9 =>
 .ite x9
 (.al (.bsl 28 1 1 [(.int .u64 0)] [(0, 1, (sl u7 1))]) fun x10 =>
 .hv (.app 28 1 8 [(.int .u64 0)] (sl u7 2) x10) fun x11 =>
 .call 325 [(sl u7 0), (sl u7 1), (sl u7 3)] fun x12 =>
 .pu (.ext x12 0) fun x13 =>
 .pu (.ext x12 1) fun x14 =>
 .pu (.bin .add (sl u7 3) (.int .u64 1)) fun x15 =>
 .fin 0 [x13, x14, x11, x15])
 (.fin 1 [(sl u7 0), (sl u7 1), (sl u7 2), (sl u7 3)])) fun u16 j17 =>
 .ret (sl u16 2)
theorem d324 : ∀ (a0 : Value) , denF en [(2001, [3, 4]), (0, [3, 4, 5, 11])] Tryz.f324 [a0] = t324 a0 := by intros; kernel_rfl
theorem c324 {ro : HP} {S : List Asrt} {Q : Value → List Asrt → Prop} (a0 : Value) (h : WT Tryz.prog en.hb (t324 a0) false ro S Q fun _ _ _ => False) : Tri Tryz.prog ro 324 ⟨[a0]⟩ S Q :=
 tri_of_tree en_ok en_mixed Tryz.func324 (by rw [d324]; exact h)

/-- lockbox/speck.mix -/
def t325 (a0 a1 a2 : Value) : Tr :=
 .call 340 [a0, (.int .i64 (-8))] fun x0 =>
 .pu (.bin .add x0 a1) fun x1 =>
 .pu (.bin .xor x1 a2) fun x2 =>
 .call 340 [a1, (.int .i64 3)] fun x3 =>
 .pu (.bin .xor x3 x2) fun x4 =>
 .ret (.tuple ⟨[x2, x4]⟩)
theorem d325 : ∀ (a0 a1 a2 : Value) , denF en [] Tryz.f325 [a0, a1, a2] = t325 a0 a1 a2 := by intros; kernel_rfl
theorem c325 {ro : HP} {S : List Asrt} {Q : Value → List Asrt → Prop} (a0 a1 a2 : Value) (h : WT Tryz.prog en.hb (t325 a0 a1 a2) false ro S Q fun _ _ _ => False) : Tri Tryz.prog ro 325 ⟨[a0, a1, a2]⟩ S Q :=
 tri_of_tree en_ok en_mixed Tryz.func325 (by rw [d325]; exact h)

/-- math/bits.Mul64 -/
def t331 (a0 a1 : Value) : Tr :=
 .pu (.bin .and a0 (.int .u64 4294967295)) fun x0 =>
 .pu (.bin .shr a0 (.int .u64 32)) fun x1 =>
 .pu (.bin .and a1 (.int .u64 4294967295)) fun x2 =>
 .pu (.bin .shr a1 (.int .u64 32)) fun x3 =>
 .pu (.bin .mul x0 x2) fun x4 =>
 .pu (.bin .mul x1 x2) fun x5 =>
 .pu (.bin .shr x4 (.int .u64 32)) fun x6 =>
 .pu (.bin .add x5 x6) fun x7 =>
 .pu (.bin .and x7 (.int .u64 4294967295)) fun x8 =>
 .pu (.bin .shr x7 (.int .u64 32)) fun x9 =>
 .pu (.bin .mul x0 x3) fun x10 =>
 .pu (.bin .add x8 x10) fun x11 =>
 .pu (.bin .mul x1 x3) fun x12 =>
 .pu (.bin .add x12 x9) fun x13 =>
 .pu (.bin .shr x11 (.int .u64 32)) fun x14 =>
 .pu (.bin .add x13 x14) fun x15 =>
 .pu (.bin .mul a0 a1) fun x16 =>
 .ret (.tuple ⟨[x15, x16]⟩)
theorem d331 : ∀ (a0 a1 : Value) , denF en [] Tryz.f331 [a0, a1] = t331 a0 a1 := by intros; kernel_rfl
theorem c331 {ro : HP} {S : List Asrt} {Q : Value → List Asrt → Prop} (a0 a1 : Value) (h : WT Tryz.prog en.hb (t331 a0 a1) false ro S Q fun _ _ _ => False) : Tri Tryz.prog ro 331 ⟨[a0, a1]⟩ S Q :=
 tri_of_tree en_ok en_mixed Tryz.func331 (by rw [d331]; exact h)

/-- slices.IndexFunc[[]uint32,uint32] -/
def t332 (a0 a1 : Value) : Tr :=
 .pu (.len a0) fun x0 =>
 .loop 0 [(.int .i64 0)] (fun u1 j2 =>
 .pu (.bin .lss (sl u1 0) x0) fun x3 =>
 .ite x3
 (.pu (.iad 1 a0 (sl u1 0)) fun x4 =>
 .rd (.ld false 1 x4) fun x5 =>
 .callv a1 [x5] fun x6 =>
 .ite x6
 (.ret (sl u1 0))
 (.pu (.bin .add (sl u1 0) (.int .i64 1)) fun x7 =>
 .fin 0 [x7]))
 (.fin 1 [(sl u1 0)])) fun u8 j9 =>
 .ret (.int .i64 (-1))
theorem d332 : ∀ (a0 a1 : Value) , denF en [(0, [8])] Tryz.f332 [a0, a1] = t332 a0 a1 := by intros; kernel_rfl
theorem c332 {ro : HP} {S : List Asrt} {Q : Value → List Asrt → Prop} (a0 a1 : Value) (h : WT Tryz.prog en.hb (t332 a0 a1) false ro S Q fun _ _ _ => False) : Tri Tryz.prog ro 332 ⟨[a0, a1]⟩ S Q :=
 tri_of_tree en_ok en_mixed Tryz.func332 (by rw [d332]; exact h)

/-- math/bits.RotateLeft64 -/
def t340 (a0 a1 : Value) : Tr :=
 .pu (.cvi .u64 a1) fun x0 =>
 .pu (.bin .and x0 (.int .u64 63)) fun x1 =>
 .pu (.bin .shl a0 x1) fun x2 =>
 .pu (.bin .sub (.int .u64 64) x1) fun x3 =>
 .pu (.bin .shr a0 x3) fun x4 =>
 .pu (.bin .or x2 x4) fun x5 =>
 .ret x5
theorem d340 : ∀ (a0 a1 : Value) , denF en [] Tryz.f340 [a0, a1] = t340 a0 a1 := by intros; kernel_rfl
theorem c340 {ro : HP} {S : List Asrt} {Q : Value → List Asrt → Prop} (a0 a1 : Value) (h : WT Tryz.prog en.hb (t340 a0 a1) false ro S Q fun _ _ _ => False) : Tri Tryz.prog ro 340 ⟨[a0, a1]⟩ S Q :=
 tri_of_tree en_ok en_mixed Tryz.func340 (by rw [d340]; exact h)
end Go.Lb
