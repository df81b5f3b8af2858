/-
  DiskPlays' switch: a sync. (Printed by gen_plays.py.)
-/
import Derived.Test.YtfmdloomjnmpgaaSw
import Derived.Deep.CutRange
namespace Go.Proofs.Ytfmdloomjnmpgaa
open Go.RowKit
set_option linter.unusedVariables false

set_option maxRecDepth 1000000 in
set_option maxHeartbeats 4000000 in
theorem sw_sync {K J : Act → World → Prop} {w wo : World} {g h k ob kk cB cf : Nat} {st : St} {o : OpV} {B Af : Option Addr} {ad : Addr} {fs : List (Int × Int)}
    (x0 x2 x3 x4 x5 x6 x7 x15 x16 x17 x18 x19 x20 x21 x22 x23 x24 x25 x26 x27 x28 x29 x30 x31 x32 x33 x34 x35 x36 x37 x38 x39 x40 x41 x42 x43 x44 x45 x46 x47 x48 x49 x50 x51 x52 x53 x54 x55 x56 x57 x58 x59 x60 x61 x62 x63 x64 x65 x66 x67 x68 x69 x70 x71 x72 x73 x74 x75 x76 x77 x78 x79 x80 x81 x82 x83 x84 x85 x86 x87 x88 x89 x90 x91 x92 x93 x94 x95 x96 x97 x98 x99 x100 x101 x102 x103 x104 x105 x106 x107 x108 x109 x110 x111 x112 x113 x114 x115 x116 x117 x118 x119 x120 x121 x122 x123 x124 x125 x126 x127 x128 x129 x130 x131 x132 x133 x134 x135 x136 x137 x138 x139 x140 x141 x142 x143 x144 x145 x146 x147 x148 x149 x150 x151 x152 x153 x154 x155 x156 x157 x158 x159 x160 x161 x162 x163 x164 x165 x166 x167 x168 x169 x170 x171 x172 x173 x174 x175 x176 x177 x178 x179 x180 x181 x182 x183 x184 x185 x186 x187 x188 x189 x190 x191 x192 x193 x194 x195 x196 x197 x198 x199 x200 x201 x202 x203 x204 x205 x206 x207 x208 x209 x210 x211 x212 x213 x214 x215 x216 x217 x218 x219 x220 x221 x222 x223 x224 x225 x226 x227 x228 x229 x230 x231 x232 x233 x234 x235 x236 x237 x238 x239 x240 x241 x242 x243 x244 x245 x246 x247 x248 x249 x250 x251 x252 x253 x254 : Value)
    (hfl : fs.length ≤ 4) (HF : Hid (Reads w w.heap.size 2 Af fs.length (faultCells fs) ∧ ∀ f ∈ fs, -9223372036854775808 ≤ f.2 ∧ f.2 ≤ 9223372036854775807)) (hk0 : (0 : Int) ≤ (k : Int)) (HO : Hid (OpAt w ad k o B cB)) (hlc : o.b.length ≤ 100 ∧ k ≤ 50)
    (HW : Hid (PlayHead w g h k st wo ∧ Blk wo ob 31 #[.int .i64 o.k, .int .i64 o.n, .slice B o.b.length cB] ∧ w.heap.size ≤ ob))
    (hJ : ∀ (a' : Act) (w' : World), (∃ u6 u12 u13 u15 u16 u17 u53 u54 u55 u56 u57 u58 u59 u60 u61 u62 u63 u64 u65 u66 u67 u68 u69 u70 u71 u72 u73 u74 u75 u76 u77 u78 u79 u80 u81 u82 u83 u84 u85 u86 u87 u88 u89 u90 u91 u92 u93 u94 u95 u96 u97 u98 u99 u100 u101 u102 u103 u104 u105 u106 u107 u108 u109 u110 u111 u112 u113 u114 u115 u116 u117 u118 u119 u120 u121 u122 u123 u124 u125 u126 u127 u128 u129 u130 u131 u132 u133 u134 u135 u136 u137 u138 u139 u140 u141 u142 u143 u144 u145 u146 u147 u148 u149 u150 u151 u152 u153 u154 u155 u156 u157 u158 u159 u160 u161 u162 u163 u164 u165 u166 u167 u168 u169 u170 u171 u172 u173 u174 u175 u176 u177 u178 u179 u180 u181 u182 u183 u184 u185 u186 u187 u188 u189 u190 u191 u192 u193 u194 u195 u196 u197 u198 u199 u200 u201 u202 u203 u204 u205 u206 u207 u208 u209 u210 u211 u212 u213 u214 u215 u216 u217 u218 u219 u220 u221 u222 u223 u224 u225 u226 u227 u228 u229 u230 u231 u232 u233 u234 u235 u236 u237 u238 u239 u240 u241 u242 u243 u244 u245 u246 u247 u248 u249 u250 u251 u252 u253 : Value, (∃ (e : Int) (st2 : St), u12 = .int .i64 e ∧ u13 = .int .i64 e ∧ Hid (PlayHead w g h (k + 1) st2 w')) ∧ a' = ⟨#[x0, .slice Af fs.length cf, x2, x3, x4, x5, u6, x7, .pointer (some ⟨g, 0, none⟩), .pointer (some ⟨h, 0, none⟩), .int .i64 (k : Int), .pointer (some ⟨ob, 0, none⟩), u12, u13, .int .i64 (kk : Int), u15, u16, u17, x18, x19, x20, x21, x22, x23, x24, x25, x26, x27, x28, x29, x30, x31, x32, x33, x34, x35, x36, x37, x38, x39, x40, x41, x42, x43, x44, x45, x46, x47, x48, x49, x50, x51, x52, u53, u54, u55, u56, u57, u58, u59, u60, u61, u62, u63, u64, u65, u66, u67, u68, u69, u70, u71, u72, u73, u74, u75, u76, u77, u78, u79, u80, u81, u82, u83, u84, u85, u86, u87, u88, u89, u90, u91, u92, u93, u94, u95, u96, u97, u98, u99, u100, u101, u102, u103, u104, u105, u106, u107, u108, u109, u110, u111, u112, u113, u114, u115, u116, u117, u118, u119, u120, u121, u122, u123, u124, u125, u126, u127, u128, u129, u130, u131, u132, u133, u134, u135, u136, u137, u138, u139, u140, u141, u142, u143, u144, u145, u146, u147, u148, u149, u150, u151, u152, u153, u154, u155, u156, u157, u158, u159, u160, u161, u162, u163, u164, u165, u166, u167, u168, u169, u170, u171, u172, u173, u174, u175, u176, u177, u178, u179, u180, u181, u182, u183, u184, u185, u186, u187, u188, u189, u190, u191, u192, u193, u194, u195, u196, u197, u198, u199, u200, u201, u202, u203, u204, u205, u206, u207, u208, u209, u210, u211, u212, u213, u214, u215, u216, u217, u218, u219, u220, u221, u222, u223, u224, u225, u226, u227, u228, u229, u230, u231, u232, u233, u234, u235, u236, u237, u238, u239, u240, u241, u242, u243, u244, u245, u246, u247, u248, u249, u250, u251, u252, u253, x254], []⟩) → J a' w')
    (hK : ∀ (a' : Act) (w' : World), Met J a' w' → K a' w') (hk5 : kk = 4) :
    Code.wp Try.prog sw (Exit.then K fun _ _ _ => False) ⟨#[x0, .slice Af fs.length cf, x2, x3, x4, x5, x6, x7, .pointer (some ⟨g, 0, none⟩), .pointer (some ⟨h, 0, none⟩), .int .i64 (k : Int), .pointer (some ⟨ob, 0, none⟩), .int .i64 0, .int .i64 0, .int .i64 (kk : Int), x15, x16, x17, x18, x19, x20, x21, x22, x23, x24, x25, x26, x27, x28, x29, x30, x31, x32, x33, x34, x35, x36, x37, x38, x39, x40, x41, x42, x43, x44, x45, x46, x47, x48, x49, x50, x51, x52, x53, x54, x55, x56, x57, x58, x59, x60, x61, x62, x63, x64, x65, x66, x67, x68, x69, x70, x71, x72, x73, x74, x75, x76, x77, x78, x79, x80, x81, x82, x83, x84, x85, x86, x87, x88, x89, x90, x91, x92, x93, x94, x95, x96, x97, x98, x99, x100, x101, x102, x103, x104, x105, x106, x107, x108, x109, x110, x111, x112, x113, x114, x115, x116, x117, x118, x119, x120, x121, x122, x123, x124, x125, x126, x127, x128, x129, x130, x131, x132, x133, x134, x135, x136, x137, x138, x139, x140, x141, x142, x143, x144, x145, x146, x147, x148, x149, x150, x151, x152, x153, x154, x155, x156, x157, x158, x159, x160, x161, x162, x163, x164, x165, x166, x167, x168, x169, x170, x171, x172, x173, x174, x175, x176, x177, x178, x179, x180, x181, x182, x183, x184, x185, x186, x187, x188, x189, x190, x191, x192, x193, x194, x195, x196, x197, x198, x199, x200, x201, x202, x203, x204, x205, x206, x207, x208, x209, x210, x211, x212, x213, x214, x215, x216, x217, x218, x219, x220, x221, x222, x223, x224, x225, x226, x227, x228, x229, x230, x231, x232, x233, x234, x235, x236, x237, x238, x239, x240, x241, x242, x243, x244, x245, x246, x247, x248, x249, x250, x251, x252, x253, x254], []⟩ wo := by
  conv => arg 2; whnf
  have c0 : wo.cell? ⟨ob, 0, none⟩ = some (.int .i64 o.k) := HW.out.2.1.cell 0
  have c1 : wo.cell? ⟨ob, 1, none⟩ = some (.int .i64 o.n) := HW.out.2.1.cell 1
  have c2 : wo.cell? ⟨ob, 2, none⟩ = some (.slice B o.b.length cB) := HW.out.2.1.cell 2
  have f1 := HW.out.2.1.frozen 1
  subst hk5
  obtain ⟨A1, A2⟩ := play_sync HW.out.1 hlc.2
  have HA := Lib.hid (And.intro A1 A2)
  clear A1 A2
  go_wp2_with fail
  refine HA.out.1.mono ?_
  rintro e w4 ⟨rfl, HM⟩
  dsimp only
  go_wp2_with fail
  refine (HA.out.2 _ HM).mono ?_
  rintro e w5 ⟨rfl, HN⟩
  dsimp only
  go_wp2_with fail
  go_meet
  case rel => exact ⟨_, _, rfl, rfl, HN⟩
end Go.Proofs.Ytfmdloomjnmpgaa
