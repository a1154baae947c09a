/- Ways of a round of 'PlantPlays'. -/
import Derived.Test.YtomncfiklkhfjaaFold22
namespace Go.Proofs.Ytomncfiklkhfjaa.Ref
open Go Go.RowKit Mem Pl
set_option maxRecDepth 100000 in
set_option maxHeartbeats 16000000 in
theorem arm13 {W : World} {i a r : Nat} {p : PM} {n a' r' : Nat} {p' : PM} {n' : Nat} {kd dv pl at_ nn : Int} {byte : UInt8} {AK : Option Addr} {nk ck : Nat} {keep : List Int} {w2 : World} {oo g : Nat}
    {J K' : Act → World → Prop} {Q : Exit → Act → World → Prop} {x0 x1 x2 x3 x4 x5 x7 x9 x15 x16 x17 x18 x19 x20 x21 x22 x23 x24 x25 x26 x27 x28 x29 x30 x31 x32 x33 x34 x35 x36 x37 x38 x39 x40 x41 x42 x43 x44 x45 x46 x47 x48 x49 x50 x51 x52 x53 x54 x55 x56 x57 x58 x59 x60 x61 x62 x63 x64 x65 x66 x67 x68 x69 x70 x71 x72 x73 x74 x75 x76 x77 x78 x79 x80 x81 x82 x83 x85 x86 x87 x88 x89 x90 x91 x92 x93 x94 x95 x96 x97 x98 x99 x100 x101 x102 x103 x104 x105 x106 x107 x108 x109 x110 x111 x112 x113 x114 x115 x116 x117 x118 x119 x120 x121 x122 x123 x124 x125 x126 x127 x128 x129 x130 x131 x132 x133 x134 x135 x136 x137 x138 x139 x140 x141 x142 x143 x144 x145 x146 x147 x148 x149 x150 x151 x152 x153 x154 x155 x156 x157 x158 x159 x160 x161 x162 x163 x164 x165 x166 x167 x168 x169 x170 x171 x172 x173 x174 x175 x176 x177 x178 x179 x180 x181 x182 x183 x184 x185 x186 x187 x188 x189 x190 x191 x192 x193 x194 x195 x196 x197 x198 x199 x200 x201 x202 x203 x204 x205 x206 x207 x208 x209 x210 x211 x212 x213 x214 x215 x216 x217 x218 x219 x220 x221 x222 x223 x224 x225 x226 x227 x228 x229 x230 x231 x232 x233 x234 x235 x236 x237 x238 x239 x240 x241 x242 x243 x244 x245 x246 x247 x248 x249 x250 x251 x252 x253 x254 x255 x256 x257 x258 x259 x260 x261 x262 x263 x264 x265 x266 x267 x268 x269 x270 x271 x272 x273 x274 x275 x276 x277 x278 x279 x280 x281 x282 x283 x284 x285 x286 x287 x288 x289 x290 x291 x292 x293 x294 x295 x296 x297 x298 x299 x300 x301 x302 x303 x304 x305 x306 x307 x308 x309 x310 x311 x312 x313 x314 x315 x316 x317 x318 x319 x320 x321 x322 x323 x324 x325 x326 x327 : Value}
    (hn : n ≤ i) (hn' : n' ≤ i) (hm : i ≤ 100000000) (HOK : Hid (OpOk W ⟨kd, dv, pl, at_, nn, byte, AK, nk, ck, keep⟩)) (HR : Hid (Rd W w2 a r p p n a' r' p' n' oo #[.int .i64 kd, .int .i64 dv, .int .i64 pl, .int .i64 at_, .int .i64 nn, .int .u8 (V8 byte), .slice AK nk ck] g (secB pl nn byte)))
    : (∀ (a1 : Act) (w' : World), (∃ u4 u6 u8 u10 u11 u15 u16 u17 u18 u19 u20 u21 u22 u23 u24 u25 u26 u27 u28 u29 u30 u70 u71 u72 u73 u74 u75 u76 u77 u78 u79 u80 u81 u82 u83 u84 u85 u86 u87 u88 u89 u90 u91 u92 u93 u94 u95 u96 u97 u98 u99 u100 u101 u102 u103 u104 u105 u106 u107 u108 u109 u110 u111 u112 u113 u114 u115 u116 u117 u118 u119 u120 u121 u122 u123 u124 u125 u126 u127 u128 u129 u130 u131 u132 u133 u134 u135 u136 u137 u138 u139 u140 u141 u142 u143 u144 u145 u146 u147 u148 u149 u150 u151 u152 u153 u154 u155 u156 u157 u158 u159 u160 u161 u162 u163 u164 u165 u166 u167 u168 u169 u170 u171 u172 u173 u174 u175 u176 u177 u178 u179 u180 u181 u182 u183 u184 u185 u186 u187 u188 u189 u190 u191 u192 u193 u194 u195 u196 u197 u198 u199 u200 u201 u202 u203 u204 u205 u206 u207 u208 u209 u210 u211 u212 u213 u214 u215 u216 u217 u218 u219 u220 u221 u222 u223 u224 u225 u226 u227 u228 u229 u230 u231 u232 u233 u234 u235 u236 u237 u238 u239 u240 u241 u242 u243 u244 u245 u246 u247 u248 u249 u250 u251 u252 u253 u254 u255 u256 u257 u258 u259 u260 u261 u262 u263 u264 u265 u266 u267 u268 u269 u270 u271 u272 u273 u274 u275 u276 u277 u278 u279 u280 u281 u282 u283 u284 u285 u286 u287 u288 u289 u290 u291 u292 u293 u294 u295 : Value, MidP W i oo #[.int .i64 kd, .int .i64 dv, .int .i64 pl, .int .i64 at_, .int .i64 nn, .int .u8 (V8 byte), .slice AK nk ck] g u6 u8 u10 u11 w' ∧ a1 = ⟨#[x0, x1, x2, x3, u4, x5, u6, x7, u8, x9, u10, u11, .int .i64 (i : Int), .pointer (some ⟨oo, 0, none⟩), .slice (some ⟨g, 0, none⟩) 64 64, u15, u16, u17, u18, u19, u20, u21, u22, u23, u24, u25, u26, u27, u28, u29, u30, x31, x32, x33, x34, x35, x36, x37, x38, x39, x40, x41, x42, x43, x44, x45, x46, x47, x48, x49, x50, x51, x52, x53, x54, x55, x56, x57, x58, x59, x60, x61, x62, x63, x64, x65, x66, x67, x68, x69, u70, u71, u72, u73, u74, u75, u76, u77, u78, u79, u80, u81, u82, u83, u84, u85, u86, u87, u88, u89, u90, u91, u92, u93, u94, u95, u96, u97, u98, u99, u100, u101, u102, u103, u104, u105, u106, u107, u108, u109, u110, u111, u112, u113, u114, u115, u116, u117, u118, u119, u120, u121, u122, u123, u124, u125, u126, u127, u128, u129, u130, u131, u132, u133, u134, u135, u136, u137, u138, u139, u140, u141, u142, u143, u144, u145, u146, u147, u148, u149, u150, u151, u152, u153, u154, u155, u156, u157, u158, u159, u160, u161, u162, u163, u164, u165, u166, u167, u168, u169, u170, u171, u172, u173, u174, u175, u176, u177, u178, u179, u180, u181, u182, u183, u184, u185, u186, u187, u188, u189, u190, u191, u192, u193, u194, u195, u196, u197, u198, u199, u200, u201, u202, u203, u204, u205, u206, u207, u208, u209, u210, u211, u212, u213, u214, u215, u216, u217, u218, u219, u220, u221, u222, u223, u224, u225, u226, u227, u228, u229, u230, u231, u232, u233, u234, u235, u236, u237, u238, u239, u240, u241, u242, u243, u244, u245, u246, u247, u248, u249, u250, u251, u252, u253, u254, u255, u256, u257, u258, u259, u260, u261, u262, u263, u264, u265, u266, u267, u268, u269, u270, u271, u272, u273, u274, u275, u276, u277, u278, u279, u280, u281, u282, u283, u284, u285, u286, u287, u288, u289, u290, u291, u292, u293, u294, u295, x296, x297, x298, x299, x300, x301, x302, x303, x304, x305, x306, x307, x308, x309, x310, x311, x312, x313, x314, x315, x316, x317, x318, x319, x320, x321, x322, x323, x324, x325, x326, x327], []⟩) → J a1 w') →
    (∀ (a1 : Act) (w' : World), Met J a1 w' → K' a1 w') →
    Code.wp Try.prog ((Try.f12.body.bind (findBlock 2)).getD .skip) (Exit.then K' Q) ⟨#[x0, x1, x2, x3, x4, x5, .pointer (some ⟨a, 0, none⟩), x7, .pointer (some ⟨r, 0, none⟩), x9, (.pointer (some ⟨a', 0, none⟩)), (.pointer (some ⟨r', 0, none⟩)), .int .i64 (i : Int), .pointer (some ⟨oo, 0, none⟩), .slice (some ⟨g, 0, none⟩) 64 64, x15, x16, x17, x18, x19, x20, x21, x22, x23, x24, x25, x26, x27, x28, x29, x30, x31, x32, x33, x34, x35, x36, x37, x38, x39, x40, x41, x42, x43, x44, x45, x46, x47, x48, x49, x50, x51, x52, x53, x54, x55, x56, x57, x58, x59, x60, x61, x62, x63, x64, x65, x66, x67, x68, x69, x70, x71, x72, x73, x74, x75, x76, x77, x78, x79, x80, x81, x82, x83, .int .i64 13, x85, x86, x87, x88, x89, x90, x91, x92, x93, x94, x95, x96, x97, x98, x99, x100, x101, x102, x103, x104, x105, x106, x107, x108, x109, x110, x111, x112, x113, x114, x115, x116, x117, x118, x119, x120, x121, x122, x123, x124, x125, x126, x127, x128, x129, x130, x131, x132, x133, x134, x135, x136, x137, x138, x139, x140, x141, x142, x143, x144, x145, x146, x147, x148, x149, x150, x151, x152, x153, x154, x155, x156, x157, x158, x159, x160, x161, x162, x163, x164, x165, x166, x167, x168, x169, x170, x171, x172, x173, x174, x175, x176, x177, x178, x179, x180, x181, x182, x183, x184, x185, x186, x187, x188, x189, x190, x191, x192, x193, x194, x195, x196, x197, x198, x199, x200, x201, x202, x203, x204, x205, x206, x207, x208, x209, x210, x211, x212, x213, x214, x215, x216, x217, x218, x219, x220, x221, x222, x223, x224, x225, x226, x227, x228, x229, x230, x231, x232, x233, x234, x235, x236, x237, x238, x239, x240, x241, x242, x243, x244, x245, x246, x247, x248, x249, x250, x251, x252, x253, x254, x255, x256, x257, x258, x259, x260, x261, x262, x263, x264, x265, x266, x267, x268, x269, x270, x271, x272, x273, x274, x275, x276, x277, x278, x279, x280, x281, x282, x283, x284, x285, x286, x287, x288, x289, x290, x291, x292, x293, x294, x295, x296, x297, x298, x299, x300, x301, x302, x303, x304, x305, x306, x307, x308, x309, x310, x311, x312, x313, x314, x315, x316, x317, x318, x319, x320, x321, x322, x323, x324, x325, x326, x327], []⟩ w2 := by
  intro _ _
  conv => arg 2; whnf
  obtain ⟨y0, y1, y2, y3, y4, y5, y6, yl⟩ := HR.out.oc
  rcases (by omega : at_ < 0 ∨ (0 ≤ at_ ∧ 70 < at_) ∨ (0 ≤ at_ ∧ at_ ≤ 70)) with hn1' | ⟨hn1', hn2'⟩ | ⟨hn1', hn2'⟩
  · have hmk := fun W : World => run_makeCap byteTy 3 3 (3 : Int) (3 : Int) (by omega) (by omega) (by omega) (by omega) W
    (try dsimp only); go_wp2_with fail
    refine Ord.region_ord [] [0, 1, 2, 3, 4, 5, 6, 7, 8] (by kernel_rfl) (by kernel_rfl) (by kernel_rfl) (by kernel_rfl) (Ord.ord_all [_, _, _, _, _, _, _, _, _] rfl (by kernel_rfl) ?_)
    (try dsimp only); go_wp2_with fail
    have ha0 : Below w2.drew.heap.size w2.drew (w2.drew.alloc (.cells (cellsOf (List.replicate 3 0)) 5)) := below_al' _
    have hd0 : Below w2.heap.size w2 w2.drew := below_drewN (Below.refl _ _) 1
    have hb0 := hd0.trans ha0
    have hk0 := Blk.new w2.drew 5 (cellsOf (List.replicate 3 (0 : UInt8)))
    have HX0 := Lib.hid (HR.out.below hb0)
    have HK0 := Lib.hid hk0
    clear ha0 hd0 hb0 hk0
    refine (HX0.out.write (by omega) dv pl (some ⟨_, 0, none⟩) 3 3 (List.replicate 3 0) HK0.out.bat (by simp)).mono ?_
    rintro e wa ⟨rfl, hr⟩
    have HRA := Lib.hid hr
    clear hr
    (try dsimp only); go_wp2_with fail
    refine Ord.nx_end ?_
    clear y0 y1 y2 y3 y4 y5 y6 yl
    obtain ⟨y0, y1, y2, y3, y4, y5, y6, yl⟩ := HRA.out.oc
    (try dsimp only); go_wp2_with fail
    refine Ord.region_ord [] [0, 1, 2, 3, 4, 5, 6, 7, 8] (by kernel_rfl) (by kernel_rfl) (by kernel_rfl) (by kernel_rfl) (Ord.ord_all [_, _, _, _, _, _, _, _, _] rfl (by kernel_rfl) ?_)
    (try dsimp only); go_wp2_with fail
    have ha1 : Below wa.drew.heap.size wa.drew (wa.drew.alloc (.cells (cellsOf (List.replicate 3 0)) 5)) := below_al' _
    have hd1 : Below wa.heap.size wa wa.drew := below_drewN (Below.refl _ _) 1
    have hb1 := hd1.trans ha1
    have hk1 := Blk.new wa.drew 5 (cellsOf (List.replicate 3 (0 : UInt8)))
    have HX1 := Lib.hid (HRA.out.below hb1)
    have HK1 := Lib.hid hk1
    clear ha1 hd1 hb1 hk1
    refine (HX1.out.rwrite (by omega) dv pl (some ⟨_, 0, none⟩) 3 3 (List.replicate 3 0) HK1.out.bat (by simp) rfl).mono ?_
    rintro e wb ⟨rfl, hr⟩
    have HRB := Lib.hid hr
    clear hr
    (try dsimp only); go_wp2_with fail
    refine Ord.nx_end ?_
    clear y0 y1 y2 y3 y4 y5 y6 yl
    (try dsimp only); go_wp2_with fail
    go_meet
    case rel => exact ⟨_, _, _, _, _, _, _, _, _, rfl, rfl, rfl, rfl, by omega, by omega, secB_len .., HRB.out⟩
  · have hmk := fun W : World => run_makeCap byteTy 3 3 (3 : Int) (3 : Int) (by omega) (by omega) (by omega) (by omega) W
    (try dsimp only); go_wp2_with fail
    refine Ord.region_ord [] [0, 1, 2, 3, 4, 5, 6, 7, 8] (by kernel_rfl) (by kernel_rfl) (by kernel_rfl) (by kernel_rfl) (Ord.ord_all [_, _, _, _, _, _, _, _, _] rfl (by kernel_rfl) ?_)
    (try dsimp only); go_wp2_with fail
    have ha0 : Below w2.drew.heap.size w2.drew (w2.drew.alloc (.cells (cellsOf (List.replicate 3 0)) 5)) := below_al' _
    have hd0 : Below w2.heap.size w2 w2.drew := below_drewN (Below.refl _ _) 1
    have hb0 := hd0.trans ha0
    have hk0 := Blk.new w2.drew 5 (cellsOf (List.replicate 3 (0 : UInt8)))
    have HX0 := Lib.hid (HR.out.below hb0)
    have HK0 := Lib.hid hk0
    clear ha0 hd0 hb0 hk0
    refine (HX0.out.write (by omega) dv pl (some ⟨_, 0, none⟩) 3 3 (List.replicate 3 0) HK0.out.bat (by simp)).mono ?_
    rintro e wa ⟨rfl, hr⟩
    have HRA := Lib.hid hr
    clear hr
    (try dsimp only); go_wp2_with fail
    refine Ord.nx_end ?_
    clear y0 y1 y2 y3 y4 y5 y6 yl
    obtain ⟨y0, y1, y2, y3, y4, y5, y6, yl⟩ := HRA.out.oc
    (try dsimp only); go_wp2_with fail
    refine Ord.region_ord [] [0, 1, 2, 3, 4, 5, 6, 7, 8] (by kernel_rfl) (by kernel_rfl) (by kernel_rfl) (by kernel_rfl) (Ord.ord_all [_, _, _, _, _, _, _, _, _] rfl (by kernel_rfl) ?_)
    (try dsimp only); go_wp2_with fail
    have ha1 : Below wa.drew.heap.size wa.drew (wa.drew.alloc (.cells (cellsOf (List.replicate 3 0)) 5)) := below_al' _
    have hd1 : Below wa.heap.size wa wa.drew := below_drewN (Below.refl _ _) 1
    have hb1 := hd1.trans ha1
    have hk1 := Blk.new wa.drew 5 (cellsOf (List.replicate 3 (0 : UInt8)))
    have HX1 := Lib.hid (HRA.out.below hb1)
    have HK1 := Lib.hid hk1
    clear ha1 hd1 hb1 hk1
    refine (HX1.out.rwrite (by omega) dv pl (some ⟨_, 0, none⟩) 3 3 (List.replicate 3 0) HK1.out.bat (by simp) rfl).mono ?_
    rintro e wb ⟨rfl, hr⟩
    have HRB := Lib.hid hr
    clear hr
    (try dsimp only); go_wp2_with fail
    refine Ord.nx_end ?_
    clear y0 y1 y2 y3 y4 y5 y6 yl
    (try dsimp only); go_wp2_with fail
    go_meet
    case rel => exact ⟨_, _, _, _, _, _, _, _, _, rfl, rfl, rfl, rfl, by omega, by omega, secB_len .., HRB.out⟩
  · obtain ⟨N, rfl⟩ : ∃ N : Nat, at_ = (N : Int) := ⟨at_.toNat, by omega⟩
    have hmk := fun W : World => run_makeCap byteTy N N (N : Int) (N : Int) (by omega) (by omega) (by omega) (by omega) W
    (try dsimp only); go_wp2_with fail
    refine Ord.region_ord [] [0, 1, 2, 3, 4, 5, 6, 7, 8] (by kernel_rfl) (by kernel_rfl) (by kernel_rfl) (by kernel_rfl) (Ord.ord_all [_, _, _, _, _, _, _, _, _] rfl (by kernel_rfl) ?_)
    (try dsimp only); go_wp2_with fail
    have ha0 : Below w2.drew.heap.size w2.drew (w2.drew.alloc (.cells (cellsOf (List.replicate N 0)) 5)) := below_al' _
    have hd0 : Below w2.heap.size w2 w2.drew := below_drewN (Below.refl _ _) 1
    have hb0 := hd0.trans ha0
    have hk0 := Blk.new w2.drew 5 (cellsOf (List.replicate N (0 : UInt8)))
    have HX0 := Lib.hid (HR.out.below hb0)
    have HK0 := Lib.hid hk0
    clear ha0 hd0 hb0 hk0
    refine (HX0.out.write (by omega) dv pl (some ⟨_, 0, none⟩) N N (List.replicate N 0) HK0.out.bat (by simp)).mono ?_
    rintro e wa ⟨rfl, hr⟩
    have HRA := Lib.hid hr
    clear hr
    (try dsimp only); go_wp2_with fail
    refine Ord.nx_end ?_
    clear y0 y1 y2 y3 y4 y5 y6 yl
    obtain ⟨y0, y1, y2, y3, y4, y5, y6, yl⟩ := HRA.out.oc
    (try dsimp only); go_wp2_with fail
    refine Ord.region_ord [] [0, 1, 2, 3, 4, 5, 6, 7, 8] (by kernel_rfl) (by kernel_rfl) (by kernel_rfl) (by kernel_rfl) (Ord.ord_all [_, _, _, _, _, _, _, _, _] rfl (by kernel_rfl) ?_)
    (try dsimp only); go_wp2_with fail
    have ha1 : Below wa.drew.heap.size wa.drew (wa.drew.alloc (.cells (cellsOf (List.replicate N 0)) 5)) := below_al' _
    have hd1 : Below wa.heap.size wa wa.drew := below_drewN (Below.refl _ _) 1
    have hb1 := hd1.trans ha1
    have hk1 := Blk.new wa.drew 5 (cellsOf (List.replicate N (0 : UInt8)))
    have HX1 := Lib.hid (HRA.out.below hb1)
    have HK1 := Lib.hid hk1
    clear ha1 hd1 hb1 hk1
    refine (HX1.out.rwrite (by omega) dv pl (some ⟨_, 0, none⟩) N N (List.replicate N 0) HK1.out.bat (by simp) rfl).mono ?_
    rintro e wb ⟨rfl, hr⟩
    have HRB := Lib.hid hr
    clear hr
    (try dsimp only); go_wp2_with fail
    refine Ord.nx_end ?_
    clear y0 y1 y2 y3 y4 y5 y6 yl
    (try dsimp only); go_wp2_with fail
    go_meet
    case rel => exact ⟨_, _, _, _, _, _, _, _, _, rfl, rfl, rfl, rfl, by omega, by omega, secB_len .., HRB.out⟩
end Go.Proofs.Ytomncfiklkhfjaa.Ref
