/- Merged texts: TC D2. No condition. -/
import Derived.Test.YtligegejdgnklaaGreatM10
import Derived.Test.YtligegejdgnklaaGreatM12
import Derived.Test.YtligegejdgnklaaGreatM13
import Derived.Test.YtligegejdgnklaaGreatProg
import Derived.KernelRfl
set_option linter.unusedVariables false
set_option linter.unusedSimpArgs false
section
set_option maxRecDepth 100000
namespace Go.AI.T01
open Go.Proofs
theorem t3 : zx0 Tryz.prog 3 = some a3 := by kernel_rfl
theorem i3 : isFn Tryz.prog 3 = true := by kernel_rfl
theorem t4 : zx0 Tryz.prog 4 = some a4 := by kernel_rfl
theorem i4 : isFn Tryz.prog 4 = true := by kernel_rfl
theorem t5 : zx0 Tryz.prog 5 = some a5 := by kernel_rfl
theorem i5 : isFn Tryz.prog 5 = true := by kernel_rfl
theorem t6 : zx0 Tryz.prog 6 = some a6 := by kernel_rfl
theorem i6 : isFn Tryz.prog 6 = true := by kernel_rfl
theorem t7 : zx0 Tryz.prog 7 = some a7 := by kernel_rfl
theorem i7 : isFn Tryz.prog 7 = true := by kernel_rfl
theorem t8 : zx0 Tryz.prog 8 = some a8 := by kernel_rfl
theorem i8 : isFn Tryz.prog 8 = true := by kernel_rfl
theorem t9 : zx0 Tryz.prog 9 = some a9 := by kernel_rfl
theorem i9 : isFn Tryz.prog 9 = true := by kernel_rfl
theorem t10 : zx0 Tryz.prog 10 = some a10 := by kernel_rfl
theorem i10 : isFn Tryz.prog 10 = true := by kernel_rfl
theorem t11 : zx0 Tryz.prog 11 = some a11 := by kernel_rfl
theorem i11 : isFn Tryz.prog 11 = true := by kernel_rfl
theorem t12 : zx0 Tryz.prog 12 = some a12 := by kernel_rfl
theorem i12 : isFn Tryz.prog 12 = true := by kernel_rfl
theorem t13 : zx0 Tryz.prog 13 = some a13 := by kernel_rfl
theorem i13 : isFn Tryz.prog 13 = true := by kernel_rfl
theorem t14 : zx0 Tryz.prog 14 = some a14 := by kernel_rfl
theorem i14 : isFn Tryz.prog 14 = true := by kernel_rfl
theorem t15 : zx0 Tryz.prog 15 = some a15 := by kernel_rfl
theorem i15 : isFn Tryz.prog 15 = true := by kernel_rfl
theorem t16 : zx0 Tryz.prog 16 = some a16 := by kernel_rfl
theorem i16 : isFn Tryz.prog 16 = true := by kernel_rfl
theorem t17 : zx0 Tryz.prog 17 = some a17 := by kernel_rfl
theorem i17 : isFn Tryz.prog 17 = true := by kernel_rfl
theorem t18 : zx0 Tryz.prog 18 = some a18 := by kernel_rfl
theorem i18 : isFn Tryz.prog 18 = true := by kernel_rfl
theorem t19 : zx0 Tryz.prog 19 = some a19 := by kernel_rfl
theorem i19 : isFn Tryz.prog 19 = true := by kernel_rfl
theorem t20 : zx0 Tryz.prog 20 = some a20 := by kernel_rfl
theorem i20 : isFn Tryz.prog 20 = true := by kernel_rfl
theorem t21 : zx0 Tryz.prog 21 = some a21 := by kernel_rfl
theorem i21 : isFn Tryz.prog 21 = true := by kernel_rfl
theorem t22 : zx0 Tryz.prog 22 = some a22 := by kernel_rfl
theorem i22 : isFn Tryz.prog 22 = true := by kernel_rfl
theorem t23 : zx0 Tryz.prog 23 = some a23 := by kernel_rfl
theorem i23 : isFn Tryz.prog 23 = true := by kernel_rfl
theorem t24 : zx0 Tryz.prog 24 = some a24 := by kernel_rfl
theorem i24 : isFn Tryz.prog 24 = true := by kernel_rfl
theorem t25 : zx0 Tryz.prog 25 = some a25 := by kernel_rfl
theorem i25 : isFn Tryz.prog 25 = true := by kernel_rfl
theorem t26 : zx0 Tryz.prog 26 = some a26 := by kernel_rfl
theorem i26 : isFn Tryz.prog 26 = true := by kernel_rfl
theorem t27 : zx0 Tryz.prog 27 = some a27 := by kernel_rfl
theorem i27 : isFn Tryz.prog 27 = true := by kernel_rfl
theorem t28 : zx0 Tryz.prog 28 = some a28 := by kernel_rfl
theorem i28 : isFn Tryz.prog 28 = true := by kernel_rfl
theorem t29 : zx0 Tryz.prog 29 = some a29 := by kernel_rfl
theorem i29 : isFn Tryz.prog 29 = true := by kernel_rfl
theorem t30 : zx0 Tryz.prog 30 = some a30 := by kernel_rfl
theorem i30 : isFn Tryz.prog 30 = true := by kernel_rfl
theorem t31 : zx0 Tryz.prog 31 = some a31 := by kernel_rfl
theorem i31 : isFn Tryz.prog 31 = true := by kernel_rfl
theorem t32 : zx0 Tryz.prog 32 = some a32 := by kernel_rfl
theorem i32 : isFn Tryz.prog 32 = true := by kernel_rfl
theorem t33 : zx0 Tryz.prog 33 = some a33 := by kernel_rfl
theorem i33 : isFn Tryz.prog 33 = true := by kernel_rfl
theorem t34 : zx0 Tryz.prog 34 = some a34 := by kernel_rfl
theorem i34 : isFn Tryz.prog 34 = true := by kernel_rfl
theorem t35 : zx0 Tryz.prog 35 = some a35 := by kernel_rfl
theorem i35 : isFn Tryz.prog 35 = true := by kernel_rfl
theorem t36 : zx0 Tryz.prog 36 = some a36 := by kernel_rfl
theorem i36 : isFn Tryz.prog 36 = true := by kernel_rfl
theorem t37 : zx0 Tryz.prog 37 = some a37 := by kernel_rfl
theorem i37 : isFn Tryz.prog 37 = true := by kernel_rfl
theorem t38 : zx0 Tryz.prog 38 = some a38 := by kernel_rfl
theorem i38 : isFn Tryz.prog 38 = true := by kernel_rfl
theorem t39 : zx0 Tryz.prog 39 = some a39 := by kernel_rfl
theorem i39 : isFn Tryz.prog 39 = true := by kernel_rfl
theorem t40 : zx0 Tryz.prog 40 = some a40 := by kernel_rfl
theorem i40 : isFn Tryz.prog 40 = true := by kernel_rfl
theorem t41 : zx0 Tryz.prog 41 = some a41 := by kernel_rfl
theorem i41 : isFn Tryz.prog 41 = true := by kernel_rfl
theorem t42 : zx0 Tryz.prog 42 = some a42 := by kernel_rfl
theorem i42 : isFn Tryz.prog 42 = true := by kernel_rfl
theorem t43 : zx0 Tryz.prog 43 = some a43 := by kernel_rfl
theorem i43 : isFn Tryz.prog 43 = true := by kernel_rfl
theorem t44 : zx0 Tryz.prog 44 = some a44 := by kernel_rfl
theorem i44 : isFn Tryz.prog 44 = true := by kernel_rfl
theorem t45 : zx0 Tryz.prog 45 = some a45 := by kernel_rfl
theorem i45 : isFn Tryz.prog 45 = true := by kernel_rfl
theorem t46 : zx0 Tryz.prog 46 = some a46 := by kernel_rfl
theorem i46 : isFn Tryz.prog 46 = true := by kernel_rfl
theorem t47 : zx0 Tryz.prog 47 = some a47 := by kernel_rfl
theorem i47 : isFn Tryz.prog 47 = true := by kernel_rfl
theorem t48 : zx0 Tryz.prog 48 = some a48 := by kernel_rfl
theorem i48 : isFn Tryz.prog 48 = true := by kernel_rfl
theorem t49 : zx0 Tryz.prog 49 = some a49 := by kernel_rfl
theorem i49 : isFn Tryz.prog 49 = true := by kernel_rfl
theorem t50 : zx0 Tryz.prog 50 = some a50 := by kernel_rfl
theorem i50 : isFn Tryz.prog 50 = true := by kernel_rfl
theorem t51 : zx0 Tryz.prog 51 = some a51 := by kernel_rfl
theorem i51 : isFn Tryz.prog 51 = true := by kernel_rfl
theorem t52 : zx0 Tryz.prog 52 = some a52 := by kernel_rfl
theorem i52 : isFn Tryz.prog 52 = true := by kernel_rfl
theorem t53 : zx0 Tryz.prog 53 = some a53 := by kernel_rfl
theorem i53 : isFn Tryz.prog 53 = true := by kernel_rfl
theorem t54 : zx0 Tryz.prog 54 = some a54 := by kernel_rfl
theorem i54 : isFn Tryz.prog 54 = true := by kernel_rfl
theorem t55 : zx0 Tryz.prog 55 = some a55 := by kernel_rfl
theorem i55 : isFn Tryz.prog 55 = true := by kernel_rfl
theorem t56 : zx0 Tryz.prog 56 = some a56 := by kernel_rfl
theorem i56 : isFn Tryz.prog 56 = true := by kernel_rfl
theorem t57 : zx0 Tryz.prog 57 = some a57 := by kernel_rfl
theorem i57 : isFn Tryz.prog 57 = true := by kernel_rfl
theorem t58 : zx0 Tryz.prog 58 = some a58 := by kernel_rfl
theorem i58 : isFn Tryz.prog 58 = true := by kernel_rfl
theorem t59 : zx0 Tryz.prog 59 = some a59 := by kernel_rfl
theorem i59 : isFn Tryz.prog 59 = true := by kernel_rfl
theorem t60 : zx0 Tryz.prog 60 = some a60 := by kernel_rfl
theorem i60 : isFn Tryz.prog 60 = true := by kernel_rfl
theorem t61 : zx0 Tryz.prog 61 = some a61 := by kernel_rfl
theorem i61 : isFn Tryz.prog 61 = true := by kernel_rfl
theorem t62 : zx0 Tryz.prog 62 = some a62 := by kernel_rfl
theorem i62 : isFn Tryz.prog 62 = true := by kernel_rfl
theorem t63 : zx0 Tryz.prog 63 = some a63 := by kernel_rfl
theorem i63 : isFn Tryz.prog 63 = true := by kernel_rfl
theorem t64 : zx0 Tryz.prog 64 = some a64 := by kernel_rfl
theorem i64 : isFn Tryz.prog 64 = true := by kernel_rfl
theorem t65 : zx0 Tryz.prog 65 = some a65 := by kernel_rfl
theorem i65 : isFn Tryz.prog 65 = true := by kernel_rfl
theorem t66 : zx0 Tryz.prog 66 = some a66 := by kernel_rfl
theorem i66 : isFn Tryz.prog 66 = true := by kernel_rfl
theorem t67 : zx0 Tryz.prog 67 = some a67 := by kernel_rfl
theorem i67 : isFn Tryz.prog 67 = true := by kernel_rfl
theorem t68 : zx0 Tryz.prog 68 = some a68 := by kernel_rfl
theorem i68 : isFn Tryz.prog 68 = true := by kernel_rfl
theorem t69 : zx0 Tryz.prog 69 = some a69 := by kernel_rfl
theorem i69 : isFn Tryz.prog 69 = true := by kernel_rfl
theorem t70 : zx0 Tryz.prog 70 = some a70 := by kernel_rfl
theorem i70 : isFn Tryz.prog 70 = true := by kernel_rfl
theorem t71 : zx0 Tryz.prog 71 = some a71 := by kernel_rfl
theorem i71 : isFn Tryz.prog 71 = true := by kernel_rfl
theorem t72 : zx0 Tryz.prog 72 = some a72 := by kernel_rfl
theorem i72 : isFn Tryz.prog 72 = true := by kernel_rfl
theorem t73 : zx0 Tryz.prog 73 = some a73 := by kernel_rfl
theorem i73 : isFn Tryz.prog 73 = true := by kernel_rfl
theorem t74 : zx0 Tryz.prog 74 = some a74 := by kernel_rfl
theorem i74 : isFn Tryz.prog 74 = true := by kernel_rfl
theorem t75 : zx0 Tryz.prog 75 = some a75 := by kernel_rfl
theorem i75 : isFn Tryz.prog 75 = true := by kernel_rfl
theorem t76 : zx0 Tryz.prog 76 = some a76 := by kernel_rfl
theorem i76 : isFn Tryz.prog 76 = true := by kernel_rfl
theorem t77 : zx0 Tryz.prog 77 = some a77 := by kernel_rfl
theorem i77 : isFn Tryz.prog 77 = true := by kernel_rfl
theorem t78 : zx0 Tryz.prog 78 = some a78 := by kernel_rfl
theorem i78 : isFn Tryz.prog 78 = true := by kernel_rfl
theorem t79 : zx0 Tryz.prog 79 = some a79 := by kernel_rfl
theorem i79 : isFn Tryz.prog 79 = true := by kernel_rfl
theorem t80 : zx0 Tryz.prog 80 = some a80 := by kernel_rfl
theorem i80 : isFn Tryz.prog 80 = true := by kernel_rfl
theorem t81 : zx0 Tryz.prog 81 = some a81 := by kernel_rfl
theorem i81 : isFn Tryz.prog 81 = true := by kernel_rfl
theorem t82 : zx0 Tryz.prog 82 = some a82 := by kernel_rfl
theorem i82 : isFn Tryz.prog 82 = true := by kernel_rfl
theorem t83 : zx0 Tryz.prog 83 = some a83 := by kernel_rfl
theorem i83 : isFn Tryz.prog 83 = true := by kernel_rfl
theorem t84 : zx0 Tryz.prog 84 = some a84 := by kernel_rfl
theorem i84 : isFn Tryz.prog 84 = true := by kernel_rfl
theorem t85 : zx0 Tryz.prog 85 = some a85 := by kernel_rfl
theorem i85 : isFn Tryz.prog 85 = true := by kernel_rfl
theorem t86 : zx0 Tryz.prog 86 = some a86 := by kernel_rfl
theorem i86 : isFn Tryz.prog 86 = true := by kernel_rfl
theorem t87 : zx0 Tryz.prog 87 = some a87 := by kernel_rfl
theorem i87 : isFn Tryz.prog 87 = true := by kernel_rfl
theorem t88 : zx0 Tryz.prog 88 = some a88 := by kernel_rfl
theorem i88 : isFn Tryz.prog 88 = true := by kernel_rfl
theorem t89 : zx0 Tryz.prog 89 = some a89 := by kernel_rfl
theorem i89 : isFn Tryz.prog 89 = true := by kernel_rfl
theorem t90 : zx0 Tryz.prog 90 = some a90 := by kernel_rfl
theorem i90 : isFn Tryz.prog 90 = true := by kernel_rfl
theorem t91 : zx0 Tryz.prog 91 = some a91 := by kernel_rfl
theorem i91 : isFn Tryz.prog 91 = true := by kernel_rfl
theorem t92 : zx0 Tryz.prog 92 = some a92 := by kernel_rfl
theorem i92 : isFn Tryz.prog 92 = true := by kernel_rfl
theorem t93 : zx0 Tryz.prog 93 = some a93 := by kernel_rfl
theorem i93 : isFn Tryz.prog 93 = true := by kernel_rfl
theorem t94 : zx0 Tryz.prog 94 = some a94 := by kernel_rfl
theorem i94 : isFn Tryz.prog 94 = true := by kernel_rfl
theorem t95 : zx0 Tryz.prog 95 = some a95 := by kernel_rfl
theorem i95 : isFn Tryz.prog 95 = true := by kernel_rfl
theorem t96 : zx0 Tryz.prog 96 = some a96 := by kernel_rfl
theorem i96 : isFn Tryz.prog 96 = true := by kernel_rfl
theorem t97 : zx0 Tryz.prog 97 = some a97 := by kernel_rfl
theorem i97 : isFn Tryz.prog 97 = true := by kernel_rfl
theorem t98 : zx0 Tryz.prog 98 = some a98 := by kernel_rfl
theorem i98 : isFn Tryz.prog 98 = true := by kernel_rfl
theorem t99 : zx0 Tryz.prog 99 = some a99 := by kernel_rfl
theorem i99 : isFn Tryz.prog 99 = true := by kernel_rfl
theorem t100 : zx0 Tryz.prog 100 = some a100 := by kernel_rfl
theorem i100 : isFn Tryz.prog 100 = true := by kernel_rfl
theorem t101 : zx0 Tryz.prog 101 = some a101 := by kernel_rfl
theorem i101 : isFn Tryz.prog 101 = true := by kernel_rfl
theorem t102 : zx0 Tryz.prog 102 = some a102 := by kernel_rfl
theorem i102 : isFn Tryz.prog 102 = true := by kernel_rfl
theorem t103 : zx0 Tryz.prog 103 = some a103 := by kernel_rfl
theorem i103 : isFn Tryz.prog 103 = true := by kernel_rfl
theorem t104 : zx0 Tryz.prog 104 = some a104 := by kernel_rfl
theorem i104 : isFn Tryz.prog 104 = true := by kernel_rfl
theorem t105 : zx0 Tryz.prog 105 = some a105 := by kernel_rfl
theorem i105 : isFn Tryz.prog 105 = true := by kernel_rfl
theorem t106 : zx0 Tryz.prog 106 = some a106 := by kernel_rfl
theorem i106 : isFn Tryz.prog 106 = true := by kernel_rfl
theorem t107 : zx0 Tryz.prog 107 = some a107 := by kernel_rfl
theorem i107 : isFn Tryz.prog 107 = true := by kernel_rfl
theorem t108 : zx0 Tryz.prog 108 = some a108 := by kernel_rfl
theorem i108 : isFn Tryz.prog 108 = true := by kernel_rfl
theorem t109 : zx0 Tryz.prog 109 = some a109 := by kernel_rfl
theorem i109 : isFn Tryz.prog 109 = true := by kernel_rfl
theorem t110 : zx0 Tryz.prog 110 = some a110 := by kernel_rfl
theorem i110 : isFn Tryz.prog 110 = true := by kernel_rfl
theorem t111 : zx0 Tryz.prog 111 = some a111 := by kernel_rfl
theorem i111 : isFn Tryz.prog 111 = true := by kernel_rfl
theorem t112 : zx0 Tryz.prog 112 = some a112 := by kernel_rfl
theorem i112 : isFn Tryz.prog 112 = true := by kernel_rfl
theorem t113 : zx0 Tryz.prog 113 = some a113 := by kernel_rfl
theorem i113 : isFn Tryz.prog 113 = true := by kernel_rfl
theorem t114 : zx0 Tryz.prog 114 = some a114 := by kernel_rfl
theorem i114 : isFn Tryz.prog 114 = true := by kernel_rfl
theorem t115 : zx0 Tryz.prog 115 = some a115 := by kernel_rfl
theorem i115 : isFn Tryz.prog 115 = true := by kernel_rfl
theorem t116 : zx0 Tryz.prog 116 = some a116 := by kernel_rfl
theorem i116 : isFn Tryz.prog 116 = true := by kernel_rfl
theorem t117 : zx0 Tryz.prog 117 = some a117 := by kernel_rfl
theorem i117 : isFn Tryz.prog 117 = true := by kernel_rfl
theorem t118 : zx0 Tryz.prog 118 = some a118 := by kernel_rfl
theorem i118 : isFn Tryz.prog 118 = true := by kernel_rfl
theorem t119 : zx0 Tryz.prog 119 = some a119 := by kernel_rfl
theorem i119 : isFn Tryz.prog 119 = true := by kernel_rfl
theorem t120 : zx0 Tryz.prog 120 = some a120 := by kernel_rfl
theorem i120 : isFn Tryz.prog 120 = true := by kernel_rfl
theorem t121 : zx0 Tryz.prog 121 = some a121 := by kernel_rfl
theorem i121 : isFn Tryz.prog 121 = true := by kernel_rfl
theorem t122 : zx0 Tryz.prog 122 = some a122 := by kernel_rfl
theorem i122 : isFn Tryz.prog 122 = true := by kernel_rfl
theorem t123 : zx0 Tryz.prog 123 = some a123 := by kernel_rfl
theorem i123 : isFn Tryz.prog 123 = true := by kernel_rfl
theorem t124 : zx0 Tryz.prog 124 = some a124 := by kernel_rfl
theorem i124 : isFn Tryz.prog 124 = true := by kernel_rfl
theorem t125 : zx0 Tryz.prog 125 = some a125 := by kernel_rfl
theorem i125 : isFn Tryz.prog 125 = true := by kernel_rfl
theorem t126 : zx0 Tryz.prog 126 = some a126 := by kernel_rfl
theorem i126 : isFn Tryz.prog 126 = true := by kernel_rfl
theorem t127 : zx0 Tryz.prog 127 = some a127 := by kernel_rfl
theorem i127 : isFn Tryz.prog 127 = true := by kernel_rfl
theorem t128 : zx0 Tryz.prog 128 = some a128 := by kernel_rfl
theorem i128 : isFn Tryz.prog 128 = true := by kernel_rfl
theorem t129 : zx0 Tryz.prog 129 = some a129 := by kernel_rfl
theorem i129 : isFn Tryz.prog 129 = true := by kernel_rfl
theorem t130 : zx0 Tryz.prog 130 = some a130 := by kernel_rfl
theorem i130 : isFn Tryz.prog 130 = true := by kernel_rfl
theorem t131 : zx0 Tryz.prog 131 = some a131 := by kernel_rfl
theorem i131 : isFn Tryz.prog 131 = true := by kernel_rfl
theorem t132 : zx0 Tryz.prog 132 = some a132 := by kernel_rfl
theorem i132 : isFn Tryz.prog 132 = true := by kernel_rfl
theorem t133 : zx0 Tryz.prog 133 = some a133 := by kernel_rfl
theorem i133 : isFn Tryz.prog 133 = true := by kernel_rfl
theorem t134 : zx0 Tryz.prog 134 = some a134 := by kernel_rfl
theorem i134 : isFn Tryz.prog 134 = true := by kernel_rfl
theorem t135 : zx0 Tryz.prog 135 = some a135 := by kernel_rfl
theorem i135 : isFn Tryz.prog 135 = true := by kernel_rfl
theorem t136 : zx0 Tryz.prog 136 = some a136 := by kernel_rfl
theorem i136 : isFn Tryz.prog 136 = true := by kernel_rfl
theorem t137 : zx0 Tryz.prog 137 = some a137 := by kernel_rfl
theorem i137 : isFn Tryz.prog 137 = true := by kernel_rfl
theorem t138 : zx0 Tryz.prog 138 = some a138 := by kernel_rfl
theorem i138 : isFn Tryz.prog 138 = true := by kernel_rfl
theorem t139 : zx0 Tryz.prog 139 = some a139 := by kernel_rfl
theorem i139 : isFn Tryz.prog 139 = true := by kernel_rfl
theorem t140 : zx0 Tryz.prog 140 = some a140 := by kernel_rfl
theorem i140 : isFn Tryz.prog 140 = true := by kernel_rfl
theorem t141 : zx0 Tryz.prog 141 = some a141 := by kernel_rfl
theorem i141 : isFn Tryz.prog 141 = true := by kernel_rfl
theorem t142 : zx0 Tryz.prog 142 = some a142 := by kernel_rfl
theorem i142 : isFn Tryz.prog 142 = true := by kernel_rfl
theorem t143 : zx0 Tryz.prog 143 = some a143 := by kernel_rfl
theorem i143 : isFn Tryz.prog 143 = true := by kernel_rfl
theorem t144 : zx0 Tryz.prog 144 = some a144 := by kernel_rfl
theorem i144 : isFn Tryz.prog 144 = true := by kernel_rfl
theorem t145 : zx0 Tryz.prog 145 = some a145 := by kernel_rfl
theorem i145 : isFn Tryz.prog 145 = true := by kernel_rfl
theorem t146 : zx0 Tryz.prog 146 = some a146 := by kernel_rfl
theorem i146 : isFn Tryz.prog 146 = true := by kernel_rfl
theorem t147 : zx0 Tryz.prog 147 = some a147 := by kernel_rfl
theorem i147 : isFn Tryz.prog 147 = true := by kernel_rfl
theorem t148 : zx0 Tryz.prog 148 = some a148 := by kernel_rfl
theorem i148 : isFn Tryz.prog 148 = true := by kernel_rfl
theorem t149 : zx0 Tryz.prog 149 = some a149 := by kernel_rfl
theorem i149 : isFn Tryz.prog 149 = true := by kernel_rfl
theorem t150 : zx0 Tryz.prog 150 = some a150 := by kernel_rfl
theorem i150 : isFn Tryz.prog 150 = true := by kernel_rfl
theorem t151 : zx0 Tryz.prog 151 = some a151 := by kernel_rfl
theorem i151 : isFn Tryz.prog 151 = true := by kernel_rfl
theorem t152 : zx0 Tryz.prog 152 = some a152 := by kernel_rfl
theorem i152 : isFn Tryz.prog 152 = true := by kernel_rfl
theorem t153 : zx0 Tryz.prog 153 = some a153 := by kernel_rfl
theorem i153 : isFn Tryz.prog 153 = true := by kernel_rfl
theorem t154 : zx0 Tryz.prog 154 = some a154 := by kernel_rfl
theorem i154 : isFn Tryz.prog 154 = true := by kernel_rfl
theorem t155 : zx0 Tryz.prog 155 = some a155 := by kernel_rfl
theorem i155 : isFn Tryz.prog 155 = true := by kernel_rfl
theorem t156 : zx0 Tryz.prog 156 = some a156 := by kernel_rfl
theorem i156 : isFn Tryz.prog 156 = true := by kernel_rfl
theorem t157 : zx0 Tryz.prog 157 = some a157 := by kernel_rfl
theorem i157 : isFn Tryz.prog 157 = true := by kernel_rfl
theorem t158 : zx0 Tryz.prog 158 = some a158 := by kernel_rfl
theorem i158 : isFn Tryz.prog 158 = true := by kernel_rfl
theorem t159 : zx0 Tryz.prog 159 = some a159 := by kernel_rfl
theorem i159 : isFn Tryz.prog 159 = true := by kernel_rfl
theorem t160 : zx0 Tryz.prog 160 = some a160 := by kernel_rfl
theorem i160 : isFn Tryz.prog 160 = true := by kernel_rfl
theorem t161 : zx0 Tryz.prog 161 = some a161 := by kernel_rfl
theorem i161 : isFn Tryz.prog 161 = true := by kernel_rfl
theorem t162 : zx0 Tryz.prog 162 = some a162 := by kernel_rfl
theorem i162 : isFn Tryz.prog 162 = true := by kernel_rfl
theorem t163 : zx0 Tryz.prog 163 = some a163 := by kernel_rfl
theorem i163 : isFn Tryz.prog 163 = true := by kernel_rfl
theorem t164 : zx0 Tryz.prog 164 = some a164 := by kernel_rfl
theorem i164 : isFn Tryz.prog 164 = true := by kernel_rfl
theorem t165 : zx0 Tryz.prog 165 = some a165 := by kernel_rfl
theorem i165 : isFn Tryz.prog 165 = true := by kernel_rfl
theorem t166 : zx0 Tryz.prog 166 = some a166 := by kernel_rfl
theorem i166 : isFn Tryz.prog 166 = true := by kernel_rfl
theorem t167 : zx0 Tryz.prog 167 = some a167 := by kernel_rfl
theorem i167 : isFn Tryz.prog 167 = true := by kernel_rfl
theorem t168 : zx0 Tryz.prog 168 = some a168 := by kernel_rfl
theorem i168 : isFn Tryz.prog 168 = true := by kernel_rfl
theorem t169 : zx0 Tryz.prog 169 = some a169 := by kernel_rfl
theorem i169 : isFn Tryz.prog 169 = true := by kernel_rfl
theorem t170 : zx0 Tryz.prog 170 = some a170 := by kernel_rfl
theorem i170 : isFn Tryz.prog 170 = true := by kernel_rfl
theorem t171 : zx0 Tryz.prog 171 = some a171 := by kernel_rfl
theorem i171 : isFn Tryz.prog 171 = true := by kernel_rfl
theorem t172 : zx0 Tryz.prog 172 = some a172 := by kernel_rfl
theorem i172 : isFn Tryz.prog 172 = true := by kernel_rfl
theorem t173 : zx0 Tryz.prog 173 = some a173 := by kernel_rfl
theorem i173 : isFn Tryz.prog 173 = true := by kernel_rfl
theorem t174 : zx0 Tryz.prog 174 = some a174 := by kernel_rfl
theorem i174 : isFn Tryz.prog 174 = true := by kernel_rfl
theorem t175 : zx0 Tryz.prog 175 = some a175 := by kernel_rfl
theorem i175 : isFn Tryz.prog 175 = true := by kernel_rfl
theorem t176 : zx0 Tryz.prog 176 = some a176 := by kernel_rfl
theorem i176 : isFn Tryz.prog 176 = true := by kernel_rfl
theorem t192 : zx0 Tryz.prog 192 = some a192 := by kernel_rfl
theorem i192 : isFn Tryz.prog 192 = true := by kernel_rfl
theorem t193 : zx0 Tryz.prog 193 = some a193 := by kernel_rfl
theorem i193 : isFn Tryz.prog 193 = true := by kernel_rfl
theorem t194 : zx0 Tryz.prog 194 = some a194 := by kernel_rfl
theorem i194 : isFn Tryz.prog 194 = true := by kernel_rfl
theorem t195 : zx0 Tryz.prog 195 = some a195 := by kernel_rfl
theorem i195 : isFn Tryz.prog 195 = true := by kernel_rfl
theorem t196 : zx0 Tryz.prog 196 = some a196 := by kernel_rfl
theorem i196 : isFn Tryz.prog 196 = true := by kernel_rfl
theorem m79 : methodOf Tryz.prog 79 "cabotage/term.parts" = some 192 := by kernel_rfl
theorem m85 : methodOf Tryz.prog 85 "cabotage/term.parts" = some 195 := by kernel_rfl
theorem m168 : methodOf Tryz.prog 168 "cabotage/term.parts" = some 196 := by kernel_rfl
def TabOk (g : Nat → Option zx8) : Prop := ∀ f af, g f = some af → zx0 Tryz.prog f = some af ∧ isFn Tryz.prog f = true
theorem leaf {n : Nat} {a : zx8} (h : zx0 Tryz.prog n = some a) (i : isFn Tryz.prog n = true) : TabOk (fun f => bif Nat.beq f n then some a else none) := by
  intro f af e
  change (bif Nat.beq f n then some a else none) = some af at e
  cases hb : Nat.beq f n with
  | true =>
    rw [hb] at e
    have e2 : some a = some af := e
    cases e2
    have := Nat.eq_of_beq_eq_true hb
    subst this; exact ⟨h, i⟩
  | false =>
    rw [hb] at e
    have e2 : none = some af := e
    cases e2
theorem br {g1 g2 : Nat → Option zx8} {m : Nat} (h1 : TabOk g1) (h2 : TabOk g2) : TabOk (fun f => bif Nat.blt f m then g1 f else g2 f) := by
  intro f af e
  change (bif Nat.blt f m then g1 f else g2 f) = some af at e
  cases hb : Nat.blt f m with
  | true => rw [hb] at e; exact h1 f af e
  | false => rw [hb] at e; exact h2 f af e
def tab (f : Nat) : Option zx8 := (bif Nat.blt f 92 then (bif Nat.blt f 47 then (bif Nat.blt f 25 then (bif Nat.blt f 14 then (bif Nat.blt f 8 then (bif Nat.blt f 5 then (bif Nat.blt f 4 then (bif Nat.beq f 3 then some a3 else none) else (bif Nat.beq f 4 then some a4 else none)) else (bif Nat.blt f 6 then (bif Nat.beq f 5 then some a5 else none) else (bif Nat.blt f 7 then (bif Nat.beq f 6 then some a6 else none) else (bif Nat.beq f 7 then some a7 else none)))) else (bif Nat.blt f 11 then (bif Nat.blt f 9 then (bif Nat.beq f 8 then some a8 else none) else (bif Nat.blt f 10 then (bif Nat.beq f 9 then some a9 else none) else (bif Nat.beq f 10 then some a10 else none))) else (bif Nat.blt f 12 then (bif Nat.beq f 11 then some a11 else none) else (bif Nat.blt f 13 then (bif Nat.beq f 12 then some a12 else none) else (bif Nat.beq f 13 then some a13 else none))))) else (bif Nat.blt f 19 then (bif Nat.blt f 16 then (bif Nat.blt f 15 then (bif Nat.beq f 14 then some a14 else none) else (bif Nat.beq f 15 then some a15 else none)) else (bif Nat.blt f 17 then (bif Nat.beq f 16 then some a16 else none) else (bif Nat.blt f 18 then (bif Nat.beq f 17 then some a17 else none) else (bif Nat.beq f 18 then some a18 else none)))) else (bif Nat.blt f 22 then (bif Nat.blt f 20 then (bif Nat.beq f 19 then some a19 else none) else (bif Nat.blt f 21 then (bif Nat.beq f 20 then some a20 else none) else (bif Nat.beq f 21 then some a21 else none))) else (bif Nat.blt f 23 then (bif Nat.beq f 22 then some a22 else none) else (bif Nat.blt f 24 then (bif Nat.beq f 23 then some a23 else none) else (bif Nat.beq f 24 then some a24 else none)))))) else (bif Nat.blt f 36 then (bif Nat.blt f 30 then (bif Nat.blt f 27 then (bif Nat.blt f 26 then (bif Nat.beq f 25 then some a25 else none) else (bif Nat.beq f 26 then some a26 else none)) else (bif Nat.blt f 28 then (bif Nat.beq f 27 then some a27 else none) else (bif Nat.blt f 29 then (bif Nat.beq f 28 then some a28 else none) else (bif Nat.beq f 29 then some a29 else none)))) else (bif Nat.blt f 33 then (bif Nat.blt f 31 then (bif Nat.beq f 30 then some a30 else none) else (bif Nat.blt f 32 then (bif Nat.beq f 31 then some a31 else none) else (bif Nat.beq f 32 then some a32 else none))) else (bif Nat.blt f 34 then (bif Nat.beq f 33 then some a33 else none) else (bif Nat.blt f 35 then (bif Nat.beq f 34 then some a34 else none) else (bif Nat.beq f 35 then some a35 else none))))) else (bif Nat.blt f 41 then (bif Nat.blt f 38 then (bif Nat.blt f 37 then (bif Nat.beq f 36 then some a36 else none) else (bif Nat.beq f 37 then some a37 else none)) else (bif Nat.blt f 39 then (bif Nat.beq f 38 then some a38 else none) else (bif Nat.blt f 40 then (bif Nat.beq f 39 then some a39 else none) else (bif Nat.beq f 40 then some a40 else none)))) else (bif Nat.blt f 44 then (bif Nat.blt f 42 then (bif Nat.beq f 41 then some a41 else none) else (bif Nat.blt f 43 then (bif Nat.beq f 42 then some a42 else none) else (bif Nat.beq f 43 then some a43 else none))) else (bif Nat.blt f 45 then (bif Nat.beq f 44 then some a44 else none) else (bif Nat.blt f 46 then (bif Nat.beq f 45 then some a45 else none) else (bif Nat.beq f 46 then some a46 else none))))))) else (bif Nat.blt f 69 then (bif Nat.blt f 58 then (bif Nat.blt f 52 then (bif Nat.blt f 49 then (bif Nat.blt f 48 then (bif Nat.beq f 47 then some a47 else none) else (bif Nat.beq f 48 then some a48 else none)) else (bif Nat.blt f 50 then (bif Nat.beq f 49 then some a49 else none) else (bif Nat.blt f 51 then (bif Nat.beq f 50 then some a50 else none) else (bif Nat.beq f 51 then some a51 else none)))) else (bif Nat.blt f 55 then (bif Nat.blt f 53 then (bif Nat.beq f 52 then some a52 else none) else (bif Nat.blt f 54 then (bif Nat.beq f 53 then some a53 else none) else (bif Nat.beq f 54 then some a54 else none))) else (bif Nat.blt f 56 then (bif Nat.beq f 55 then some a55 else none) else (bif Nat.blt f 57 then (bif Nat.beq f 56 then some a56 else none) else (bif Nat.beq f 57 then some a57 else none))))) else (bif Nat.blt f 63 then (bif Nat.blt f 60 then (bif Nat.blt f 59 then (bif Nat.beq f 58 then some a58 else none) else (bif Nat.beq f 59 then some a59 else none)) else (bif Nat.blt f 61 then (bif Nat.beq f 60 then some a60 else none) else (bif Nat.blt f 62 then (bif Nat.beq f 61 then some a61 else none) else (bif Nat.beq f 62 then some a62 else none)))) else (bif Nat.blt f 66 then (bif Nat.blt f 64 then (bif Nat.beq f 63 then some a63 else none) else (bif Nat.blt f 65 then (bif Nat.beq f 64 then some a64 else none) else (bif Nat.beq f 65 then some a65 else none))) else (bif Nat.blt f 67 then (bif Nat.beq f 66 then some a66 else none) else (bif Nat.blt f 68 then (bif Nat.beq f 67 then some a67 else none) else (bif Nat.beq f 68 then some a68 else none)))))) else (bif Nat.blt f 80 then (bif Nat.blt f 74 then (bif Nat.blt f 71 then (bif Nat.blt f 70 then (bif Nat.beq f 69 then some a69 else none) else (bif Nat.beq f 70 then some a70 else none)) else (bif Nat.blt f 72 then (bif Nat.beq f 71 then some a71 else none) else (bif Nat.blt f 73 then (bif Nat.beq f 72 then some a72 else none) else (bif Nat.beq f 73 then some a73 else none)))) else (bif Nat.blt f 77 then (bif Nat.blt f 75 then (bif Nat.beq f 74 then some a74 else none) else (bif Nat.blt f 76 then (bif Nat.beq f 75 then some a75 else none) else (bif Nat.beq f 76 then some a76 else none))) else (bif Nat.blt f 78 then (bif Nat.beq f 77 then some a77 else none) else (bif Nat.blt f 79 then (bif Nat.beq f 78 then some a78 else none) else (bif Nat.beq f 79 then some a79 else none))))) else (bif Nat.blt f 86 then (bif Nat.blt f 83 then (bif Nat.blt f 81 then (bif Nat.beq f 80 then some a80 else none) else (bif Nat.blt f 82 then (bif Nat.beq f 81 then some a81 else none) else (bif Nat.beq f 82 then some a82 else none))) else (bif Nat.blt f 84 then (bif Nat.beq f 83 then some a83 else none) else (bif Nat.blt f 85 then (bif Nat.beq f 84 then some a84 else none) else (bif Nat.beq f 85 then some a85 else none)))) else (bif Nat.blt f 89 then (bif Nat.blt f 87 then (bif Nat.beq f 86 then some a86 else none) else (bif Nat.blt f 88 then (bif Nat.beq f 87 then some a87 else none) else (bif Nat.beq f 88 then some a88 else none))) else (bif Nat.blt f 90 then (bif Nat.beq f 89 then some a89 else none) else (bif Nat.blt f 91 then (bif Nat.beq f 90 then some a90 else none) else (bif Nat.beq f 91 then some a91 else none)))))))) else (bif Nat.blt f 137 then (bif Nat.blt f 114 then (bif Nat.blt f 103 then (bif Nat.blt f 97 then (bif Nat.blt f 94 then (bif Nat.blt f 93 then (bif Nat.beq f 92 then some a92 else none) else (bif Nat.beq f 93 then some a93 else none)) else (bif Nat.blt f 95 then (bif Nat.beq f 94 then some a94 else none) else (bif Nat.blt f 96 then (bif Nat.beq f 95 then some a95 else none) else (bif Nat.beq f 96 then some a96 else none)))) else (bif Nat.blt f 100 then (bif Nat.blt f 98 then (bif Nat.beq f 97 then some a97 else none) else (bif Nat.blt f 99 then (bif Nat.beq f 98 then some a98 else none) else (bif Nat.beq f 99 then some a99 else none))) else (bif Nat.blt f 101 then (bif Nat.beq f 100 then some a100 else none) else (bif Nat.blt f 102 then (bif Nat.beq f 101 then some a101 else none) else (bif Nat.beq f 102 then some a102 else none))))) else (bif Nat.blt f 108 then (bif Nat.blt f 105 then (bif Nat.blt f 104 then (bif Nat.beq f 103 then some a103 else none) else (bif Nat.beq f 104 then some a104 else none)) else (bif Nat.blt f 106 then (bif Nat.beq f 105 then some a105 else none) else (bif Nat.blt f 107 then (bif Nat.beq f 106 then some a106 else none) else (bif Nat.beq f 107 then some a107 else none)))) else (bif Nat.blt f 111 then (bif Nat.blt f 109 then (bif Nat.beq f 108 then some a108 else none) else (bif Nat.blt f 110 then (bif Nat.beq f 109 then some a109 else none) else (bif Nat.beq f 110 then some a110 else none))) else (bif Nat.blt f 112 then (bif Nat.beq f 111 then some a111 else none) else (bif Nat.blt f 113 then (bif Nat.beq f 112 then some a112 else none) else (bif Nat.beq f 113 then some a113 else none)))))) else (bif Nat.blt f 125 then (bif Nat.blt f 119 then (bif Nat.blt f 116 then (bif Nat.blt f 115 then (bif Nat.beq f 114 then some a114 else none) else (bif Nat.beq f 115 then some a115 else none)) else (bif Nat.blt f 117 then (bif Nat.beq f 116 then some a116 else none) else (bif Nat.blt f 118 then (bif Nat.beq f 117 then some a117 else none) else (bif Nat.beq f 118 then some a118 else none)))) else (bif Nat.blt f 122 then (bif Nat.blt f 120 then (bif Nat.beq f 119 then some a119 else none) else (bif Nat.blt f 121 then (bif Nat.beq f 120 then some a120 else none) else (bif Nat.beq f 121 then some a121 else none))) else (bif Nat.blt f 123 then (bif Nat.beq f 122 then some a122 else none) else (bif Nat.blt f 124 then (bif Nat.beq f 123 then some a123 else none) else (bif Nat.beq f 124 then some a124 else none))))) else (bif Nat.blt f 131 then (bif Nat.blt f 128 then (bif Nat.blt f 126 then (bif Nat.beq f 125 then some a125 else none) else (bif Nat.blt f 127 then (bif Nat.beq f 126 then some a126 else none) else (bif Nat.beq f 127 then some a127 else none))) else (bif Nat.blt f 129 then (bif Nat.beq f 128 then some a128 else none) else (bif Nat.blt f 130 then (bif Nat.beq f 129 then some a129 else none) else (bif Nat.beq f 130 then some a130 else none)))) else (bif Nat.blt f 134 then (bif Nat.blt f 132 then (bif Nat.beq f 131 then some a131 else none) else (bif Nat.blt f 133 then (bif Nat.beq f 132 then some a132 else none) else (bif Nat.beq f 133 then some a133 else none))) else (bif Nat.blt f 135 then (bif Nat.beq f 134 then some a134 else none) else (bif Nat.blt f 136 then (bif Nat.beq f 135 then some a135 else none) else (bif Nat.beq f 136 then some a136 else none))))))) else (bif Nat.blt f 159 then (bif Nat.blt f 148 then (bif Nat.blt f 142 then (bif Nat.blt f 139 then (bif Nat.blt f 138 then (bif Nat.beq f 137 then some a137 else none) else (bif Nat.beq f 138 then some a138 else none)) else (bif Nat.blt f 140 then (bif Nat.beq f 139 then some a139 else none) else (bif Nat.blt f 141 then (bif Nat.beq f 140 then some a140 else none) else (bif Nat.beq f 141 then some a141 else none)))) else (bif Nat.blt f 145 then (bif Nat.blt f 143 then (bif Nat.beq f 142 then some a142 else none) else (bif Nat.blt f 144 then (bif Nat.beq f 143 then some a143 else none) else (bif Nat.beq f 144 then some a144 else none))) else (bif Nat.blt f 146 then (bif Nat.beq f 145 then some a145 else none) else (bif Nat.blt f 147 then (bif Nat.beq f 146 then some a146 else none) else (bif Nat.beq f 147 then some a147 else none))))) else (bif Nat.blt f 153 then (bif Nat.blt f 150 then (bif Nat.blt f 149 then (bif Nat.beq f 148 then some a148 else none) else (bif Nat.beq f 149 then some a149 else none)) else (bif Nat.blt f 151 then (bif Nat.beq f 150 then some a150 else none) else (bif Nat.blt f 152 then (bif Nat.beq f 151 then some a151 else none) else (bif Nat.beq f 152 then some a152 else none)))) else (bif Nat.blt f 156 then (bif Nat.blt f 154 then (bif Nat.beq f 153 then some a153 else none) else (bif Nat.blt f 155 then (bif Nat.beq f 154 then some a154 else none) else (bif Nat.beq f 155 then some a155 else none))) else (bif Nat.blt f 157 then (bif Nat.beq f 156 then some a156 else none) else (bif Nat.blt f 158 then (bif Nat.beq f 157 then some a157 else none) else (bif Nat.beq f 158 then some a158 else none)))))) else (bif Nat.blt f 170 then (bif Nat.blt f 164 then (bif Nat.blt f 161 then (bif Nat.blt f 160 then (bif Nat.beq f 159 then some a159 else none) else (bif Nat.beq f 160 then some a160 else none)) else (bif Nat.blt f 162 then (bif Nat.beq f 161 then some a161 else none) else (bif Nat.blt f 163 then (bif Nat.beq f 162 then some a162 else none) else (bif Nat.beq f 163 then some a163 else none)))) else (bif Nat.blt f 167 then (bif Nat.blt f 165 then (bif Nat.beq f 164 then some a164 else none) else (bif Nat.blt f 166 then (bif Nat.beq f 165 then some a165 else none) else (bif Nat.beq f 166 then some a166 else none))) else (bif Nat.blt f 168 then (bif Nat.beq f 167 then some a167 else none) else (bif Nat.blt f 169 then (bif Nat.beq f 168 then some a168 else none) else (bif Nat.beq f 169 then some a169 else none))))) else (bif Nat.blt f 176 then (bif Nat.blt f 173 then (bif Nat.blt f 171 then (bif Nat.beq f 170 then some a170 else none) else (bif Nat.blt f 172 then (bif Nat.beq f 171 then some a171 else none) else (bif Nat.beq f 172 then some a172 else none))) else (bif Nat.blt f 174 then (bif Nat.beq f 173 then some a173 else none) else (bif Nat.blt f 175 then (bif Nat.beq f 174 then some a174 else none) else (bif Nat.beq f 175 then some a175 else none)))) else (bif Nat.blt f 194 then (bif Nat.blt f 192 then (bif Nat.beq f 176 then some a176 else none) else (bif Nat.blt f 193 then (bif Nat.beq f 192 then some a192 else none) else (bif Nat.beq f 193 then some a193 else none))) else (bif Nat.blt f 195 then (bif Nat.beq f 194 then some a194 else none) else (bif Nat.blt f 196 then (bif Nat.beq f 195 then some a195 else none) else (bif Nat.beq f 196 then some a196 else none)))))))))
theorem tab_ok : TabOk tab := (br (br (br (br (br (br (br (leaf t3 i3) (leaf t4 i4)) (br (leaf t5 i5) (br (leaf t6 i6) (leaf t7 i7)))) (br (br (leaf t8 i8) (br (leaf t9 i9) (leaf t10 i10))) (br (leaf t11 i11) (br (leaf t12 i12) (leaf t13 i13))))) (br (br (br (leaf t14 i14) (leaf t15 i15)) (br (leaf t16 i16) (br (leaf t17 i17) (leaf t18 i18)))) (br (br (leaf t19 i19) (br (leaf t20 i20) (leaf t21 i21))) (br (leaf t22 i22) (br (leaf t23 i23) (leaf t24 i24)))))) (br (br (br (br (leaf t25 i25) (leaf t26 i26)) (br (leaf t27 i27) (br (leaf t28 i28) (leaf t29 i29)))) (br (br (leaf t30 i30) (br (leaf t31 i31) (leaf t32 i32))) (br (leaf t33 i33) (br (leaf t34 i34) (leaf t35 i35))))) (br (br (br (leaf t36 i36) (leaf t37 i37)) (br (leaf t38 i38) (br (leaf t39 i39) (leaf t40 i40)))) (br (br (leaf t41 i41) (br (leaf t42 i42) (leaf t43 i43))) (br (leaf t44 i44) (br (leaf t45 i45) (leaf t46 i46))))))) (br (br (br (br (br (leaf t47 i47) (leaf t48 i48)) (br (leaf t49 i49) (br (leaf t50 i50) (leaf t51 i51)))) (br (br (leaf t52 i52) (br (leaf t53 i53) (leaf t54 i54))) (br (leaf t55 i55) (br (leaf t56 i56) (leaf t57 i57))))) (br (br (br (leaf t58 i58) (leaf t59 i59)) (br (leaf t60 i60) (br (leaf t61 i61) (leaf t62 i62)))) (br (br (leaf t63 i63) (br (leaf t64 i64) (leaf t65 i65))) (br (leaf t66 i66) (br (leaf t67 i67) (leaf t68 i68)))))) (br (br (br (br (leaf t69 i69) (leaf t70 i70)) (br (leaf t71 i71) (br (leaf t72 i72) (leaf t73 i73)))) (br (br (leaf t74 i74) (br (leaf t75 i75) (leaf t76 i76))) (br (leaf t77 i77) (br (leaf t78 i78) (leaf t79 i79))))) (br (br (br (leaf t80 i80) (br (leaf t81 i81) (leaf t82 i82))) (br (leaf t83 i83) (br (leaf t84 i84) (leaf t85 i85)))) (br (br (leaf t86 i86) (br (leaf t87 i87) (leaf t88 i88))) (br (leaf t89 i89) (br (leaf t90 i90) (leaf t91 i91)))))))) (br (br (br (br (br (br (leaf t92 i92) (leaf t93 i93)) (br (leaf t94 i94) (br (leaf t95 i95) (leaf t96 i96)))) (br (br (leaf t97 i97) (br (leaf t98 i98) (leaf t99 i99))) (br (leaf t100 i100) (br (leaf t101 i101) (leaf t102 i102))))) (br (br (br (leaf t103 i103) (leaf t104 i104)) (br (leaf t105 i105) (br (leaf t106 i106) (leaf t107 i107)))) (br (br (leaf t108 i108) (br (leaf t109 i109) (leaf t110 i110))) (br (leaf t111 i111) (br (leaf t112 i112) (leaf t113 i113)))))) (br (br (br (br (leaf t114 i114) (leaf t115 i115)) (br (leaf t116 i116) (br (leaf t117 i117) (leaf t118 i118)))) (br (br (leaf t119 i119) (br (leaf t120 i120) (leaf t121 i121))) (br (leaf t122 i122) (br (leaf t123 i123) (leaf t124 i124))))) (br (br (br (leaf t125 i125) (br (leaf t126 i126) (leaf t127 i127))) (br (leaf t128 i128) (br (leaf t129 i129) (leaf t130 i130)))) (br (br (leaf t131 i131) (br (leaf t132 i132) (leaf t133 i133))) (br (leaf t134 i134) (br (leaf t135 i135) (leaf t136 i136))))))) (br (br (br (br (br (leaf t137 i137) (leaf t138 i138)) (br (leaf t139 i139) (br (leaf t140 i140) (leaf t141 i141)))) (br (br (leaf t142 i142) (br (leaf t143 i143) (leaf t144 i144))) (br (leaf t145 i145) (br (leaf t146 i146) (leaf t147 i147))))) (br (br (br (leaf t148 i148) (leaf t149 i149)) (br (leaf t150 i150) (br (leaf t151 i151) (leaf t152 i152)))) (br (br (leaf t153 i153) (br (leaf t154 i154) (leaf t155 i155))) (br (leaf t156 i156) (br (leaf t157 i157) (leaf t158 i158)))))) (br (br (br (br (leaf t159 i159) (leaf t160 i160)) (br (leaf t161 i161) (br (leaf t162 i162) (leaf t163 i163)))) (br (br (leaf t164 i164) (br (leaf t165 i165) (leaf t166 i166))) (br (leaf t167 i167) (br (leaf t168 i168) (leaf t169 i169))))) (br (br (br (leaf t170 i170) (br (leaf t171 i171) (leaf t172 i172))) (br (leaf t173 i173) (br (leaf t174 i174) (leaf t175 i175)))) (br (br (leaf t176 i176) (br (leaf t192 i192) (leaf t193 i193))) (br (leaf t194 i194) (br (leaf t195 i195) (leaf t196 i196)))))))))
end Go.AI.T01
end
section
namespace Go.AI
open T01 Go.Proofs
theorem IsL.len {α : Type} {sz : Nat} {R : α → List AV → Prop} {L : AV} {l : List α} (h : IsL sz R L l) (hp : zz0) : alen .int L hp = some (.int .i64 l.length) := by
  cases h with
  | nil => rfl
  | zero => rfl
  | lst h1 h2 => simp [alen,h1]
theorem IsL.get {α : Type} {sz : Nat} {R : α → List AV → Prop} {L : AV} {l : List α} (h : IsL sz R L l) {i : Nat} {y : α} (hy : l[i]? = some y) : ∃ ws, R y ws ∧ ws.length = sz ∧ aidx sz L i = some (.iptr ws 0) := by
  cases h with
  | nil => simp at hy
  | zero => simp at hy
  | @lst _ els h1 h2 =>
    have hi := (List.getElem?_eq_some_iff.1 hy).1
    have he : els[i]? = some els[i] := List.getElem?_eq_getElem (by omega)
    obtain ⟨a, b, c⟩ := h2 i y _ hy he
    refine ⟨_, a, b, ?_⟩
    simp only [aidx,if_true,List.getElem?_map,he,Option.map_some,vz1 c]
theorem zq0 (cs : List AV) (off : Nat) : part none cs off = cs[off]? := rfl
theorem zj6 {ws : List AV} {sz : Nat} (h : ws.length = sz) : part (some sz) ws 0 = some (.agg ws) := by
  simp only [part,Nat.zero_add]
  rw [if_pos (by omega), List.drop_zero, List.take_of_length_le (by omega)]
mutual
def yv1 : Exp → Nat
  | .mk _ _ _ kids => 1 + yz4 kids
def yz4 : List Exp → Nat
  | [] => 0
  | e :: es => yv1 e + yz4 es
end
theorem wk0 : ∀ (a b : List Exp), yz4 (a ++ b) = yz4 a + yz4 b
  | [], b => by simp [yz4]
  | e :: a, b => by simp only [List.cons_append,yz4,wk0 a b]; omega
theorem vk3 {l : List Exp} {i : Nat} {e : Exp} (h : l[i]? = some e) : yz4 (l.take (i + 1)) = yz4 (l.take i) + yv1 e := by
  rw [List.take_add_one, h, wk0]
  simp [yz4]
theorem qx4 (l : List Exp) (i : Nat) : yz4 (l.take i) ≤ yz4 l := by
  have := wk0 (l.take i) (l.drop i)
  rw [List.take_append_drop] at this
  omega
def wq0 (id : Nat) (h h' : zz0) : Prop := h.next ≤ h'.next ∧ ∀ i, i < h.next → i ≠ id → h'.get i = h.get i
theorem wq0.trans {id : Nat} {a b c : zz0} (h1 : wq0 id a b) (h2 : wq0 id b c) : wq0 id a c :=
  ⟨Nat.le_trans h1.1 h2.1, fun i hi hne => by rw [h2.2 i (Nat.lt_of_lt_of_le hi h1.1) hne, h1.2 i hi hne]⟩
def Left (left left' : Int) (size : Nat) : Prop := -1 ≤ left' ∧ left' ≤ left ∧ ((size : Int) ≤ left → left' = left - size) ∧ (left < size → left' < 0)
theorem vx3 {n : Int} (h : 0 ≤ n) : decide (n ≥ 0) = true := by simpa using h
theorem wx9 {n : Int} (h : ¬ 0 ≤ n) : decide (n ≥ 0) = false := by simpa using h
theorem subI {n : Int} (h : 0 ≤ n) (h2 : n < 2 ^ 62) : IntKind.i64.wrap (n - 1) = n - 1 := by
  unfold IntKind.wrap
  simp [IntKind.bits,IntKind.signed]
  omega
def SmallE (P : Program) (e : Exp) (ws : List AV) : Prop :=
  ∀ (id : Nat) (left : Int) (h : zz0) (ty : Nat), id < h.next → h.get id = some (.cells [.int .i64 left] ty) → 0 ≤ left → left < 2 ^ 62 →
    zk4 P 54 [.agg ws, .ptr id 0] h fun o h' => o = .ret (.tup []) ∧ wq0 id h h' ∧ ∃ left', h'.get id = some (.cells [.int .i64 left'] ty) ∧ Left left left' (yv1 e)
set_option maxRecDepth 100000 in
set_option maxHeartbeats 4000000 in
theorem kv1 {P : Program} (hfn : isFn P 54 = true) {kids : List Exp} {K : AV} {R : Exp → List AV → Prop} (hK : IsL 4 R K kids) (hR : ∀ e ws, R e ws → SmallE P e ws) (hkl : kids.length < 2 ^ 63)
    {c0 c1 c2 : AV} {id bx ty bty : Nat} {left0 : Int} (h0l : 0 ≤ left0) (h0u : left0 < 2 ^ 62) {hb : zz0} (hid : id < bx) (hbx : bx < hb.next) (hbxg : hb.get bx = some (.cells [c0, c1, c2, K] bty)) {Q : zk3 → AFr → zz0 → Prop}
    (hex : ∀ (env : Env) (h' : zz0) (cur : Int), wq0 id hb h' → h'.get id = some (.cells [.int .i64 cur] ty) → Left left0 cur (1 + yz4 kids) → Q (.exit 0) ⟨env, []⟩ h') :
    ∀ (n i : Nat) (cur : Int) (env : Env) (h : zz0), kids.length = i + n → wq0 id hb h → h.get id = some (.cells [.int .i64 cur] ty) → Left left0 cur (1 + yz4 (kids.take i)) →
      env.get 1 = .ptr id 0 → env.get 2 = .ptr bx 0 → env.get 4 = .int .i64 i → yq6 P none 31 a54.code.r.r.r.l.l ⟨env, []⟩ h Q := by
  have ho : zk7 P (fun _ _ => none) := fun f args v e => by cases e
  intro n
  induction n with
  | zero =>
    intro i cur env h hn hk hc hl e1 e2 e4
    have hg : h.get bx = some (.cells [c0, c1, c2, K] bty) := by rw [hk.2 bx hbx (by omega)]; exact hbxg
    refine wx8 ho ?_
    simp (config := { maxSteps := 10000000 }) only [a54,AC.l,AC.r,zk2,zj5,wp_skip,wp_exit,zv2,wp_seq,wp_cond,wp_block,zz7,seqP,zj1,aop,Opd.ev,zz2,Env.zq7,e2,e4,ofV,Nat.reduceEqDiff,if_true,if_false,Opd.eqOk,abin,aint,acmp,Option.map_some,Nat.zero_add,zx7,hg,zq0,List.getElem?_cons_succ,List.getElem?_cons_zero,hK.len,xj3 (show ¬ i < kids.length by omega),Bool.false_beq,Bool.not_true,Bool.false_eq_true,cond_false,oz,qz,lz,kz,gz,fz]
    refine hex _ h cur hk hc ?_
    rw [List.take_of_length_le (by omega)] at hl
    exact hl
  | succ n ih =>
    intro i cur env h hn hk hc hl e1 e2 e4
    have hg : h.get bx = some (.cells [c0, c1, c2, K] bty) := by rw [hk.2 bx hbx (by omega)]; exact hbxg
    have hi : i < kids.length := by omega
    have hx : kids[i]? = some kids[i] := List.getElem?_eq_getElem hi
    obtain ⟨ws, hws, hwl, hidx⟩ := hK.get hx
    refine wx8 ho ?_
    by_cases hcur : 0 ≤ cur
    · simp (config := { maxSteps := 10000000 }) only [a54,AC.l,AC.r,zk2,zj5,wp_skip,wp_exit,zv2,wp_seq,wp_cond,wp_block,zz7,zq5,yx8,wk6,seqP,zq4,zj1,aop,Opd.ev,zz2,Env.zq7,e1,e2,e4,ofV,Nat.reduceEqDiff,if_true,if_false,Opd.eqOk,abin,aint,acmp,Option.map_some,Nat.zero_add,zx7,hg,hc,zq0,List.getElem?_cons_succ,List.getElem?_cons_zero,hK.len,zk6 hi,Bool.true_beq,vx3 hcur,cond_true,zj2,hidx,zj6 hwl,List.map,List.nil_append,List.append_nil,oz,qz,lz,kz,gz,fz]
      refine ⟨hfn, (hR _ _ hws id cur h ty (by have := hk.1; omega) hc hcur (by have := hl.2.1; omega)).mono ?_⟩
      rintro o h' ⟨rfl, hk', cur', hc', hl'⟩
      simp (config := { maxSteps := 10000000 }) only [yx2 (show i < 2 ^ 63 - 1 by omega)]
      refine ih (i + 1) cur' _ h' (by omega) (hk.trans ?_) hc' ?_ (by simp only [Env.zq7,Nat.reduceEqDiff,if_false,e1]) (by simp only [Env.zq7,Nat.reduceEqDiff,if_false,e2]) (by simp only [Env.zq7,if_true])
      · exact hk'
      · rw [vk3 hx]
        obtain ⟨l1, l2, l3, l4⟩ := hl
        obtain ⟨k1, k2, k3, k4⟩ := hl'
        refine ⟨k1, by omega, fun hle => ?_, fun hlt => ?_⟩
        · have := l3 (by omega)
          have := k3 (by omega)
          omega
        · by_cases hle : ((1 + yz4 (List.take i kids) : Nat) : Int) ≤ left0
          · have := l3 hle
            exact k4 (by omega)
          · have := l4 (by omega)
            omega
    · simp (config := { maxSteps := 10000000 }) only [a54,AC.l,AC.r,zk2,zj5,wp_skip,wp_exit,zv2,wp_seq,wp_cond,wp_block,zz7,seqP,zj1,aop,Opd.ev,zz2,Env.zq7,e1,e2,e4,ofV,Nat.reduceEqDiff,if_true,if_false,Opd.eqOk,abin,aint,acmp,Option.map_some,Nat.zero_add,zx7,hg,hc,zq0,List.getElem?_cons_succ,List.getElem?_cons_zero,hK.len,zk6 hi,Bool.true_beq,wx9 hcur,cond_false,oz,qz,lz,kz,gz,fz]
      refine hex _ h cur hk hc ?_
      obtain ⟨l1, l2, l3, l4⟩ := hl
      have := qx4 kids i
      refine ⟨l1, l2, fun hle => ?_, fun _ => by omega⟩
      have := l3 (by omega)
      omega
set_option maxRecDepth 100000 in
set_option maxHeartbeats 4000000 in
theorem kv2 {P : Program} (hf : zx0 P 54 = some a54) (hfn : isFn P 54 = true) : ∀ (n : Nat) (e : Exp) (ws : List AV), ExpC n e ws → SmallE P e ws
  | 0, _, _, h => h.elim
  | n + 1, .mk op k text kids, ws, h => by
    have ho : zk7 P (fun _ _ => none) := fun f args v e => by cases e
    simp only [ExpC] at h
    obtain ⟨K, rfl, ht, hkl, hK⟩ := h
    intro id left h ty hid hg hl0 hlu
    refine callP ho hf (by simp [a54,oz,qz,lz,kz,gz,fz]) ?_
    have g0 : (zj4 0 [AV.agg [.int .i64 op, .int .i64 k, .str text, K], AV.ptr id 0]).get 0 = .agg [.int .i64 op, .int .i64 k, .str text, K] := by simp [zx1]
    have g1 : (zj4 0 [AV.agg [.int .i64 op, .int .i64 k, .str text, K], AV.ptr id 0]).get 1 = .ptr id 0 := by simp [zx1]
    have hne : ¬ id = h.next := by omega
    have hg1 : (h.new (.cells [.int .i64 op, .int .i64 k, .str text, K] 36)).get id = some (.cells [.int .i64 left] ty) := by rw [zz0.zz9, if_neg hne]; exact hg
    have hst : zv0 1 (.ptr id 0) (.int .i64 (left - 1)) (h.new (.cells [.int .i64 op, .int .i64 k, .str text, K] 36)) = some ((h.new (.cells [.int .i64 op, .int .i64 k, .str text, K] 36)).set id (.cells [.int .i64 (left - 1)] ty)) := by
      simp only [zv0,AV.cells,hg1]
      rw [if_pos ⟨rfl, rfl, by simp⟩]
      rfl
    simp (config := { maxSteps := 10000000 }) only [a54,zk2,zj5,zv2,wp_seq,wp_block,wp_loop,zz7,seqP,zz3,aop,Opd.ev,AV.cells,zz2,zk0,Env.zq7,g0,g1,ofV,ofH,Nat.reduceEqDiff,if_true,if_false,Opd.eqOk,abin,aint,zx7,hg1,zq0,List.getElem?_cons_zero,subI hl0 hlu,hst,oz,qz,lz,kz,gz,fz]
    refine kv1 (hb := (h.new (.cells [.int .i64 op, .int .i64 k, .str text, K] 36)).set id (.cells [.int .i64 (left - 1)] ty)) (bx := h.next) (bty := 36) (left0 := left) hfn hK (kv2 hf hfn n) hkl hl0 hlu hid (by simp [zz0.yq3,zz0.zq3]) (by rw [zz0.zq9, if_neg (by omega), zz0.zz9, if_pos rfl]) ?_
      kids.length 0 (left - 1) _ _ (by omega) ⟨Nat.le_refl _, fun _ _ _ => rfl⟩ (by rw [zz0.zq9, if_pos rfl]) ?_ (by simp [Env.zq7,g1]) (by simp [Env.zq7]) (by simp [Env.zq7])
    · intro env h' cur hk hc hl
      simp only [zq4,if_true,endP,zq2,ares]
      refine ⟨_, rfl, rfl, ⟨?_, fun i hi hne => ?_⟩, cur, hc, by simpa only [yv1] using hl⟩
      · have := hk.1
        simp only [zz0.yq3,zz0.zq3] at this
        omega
      · rw [hk.2 i (by simp only [zz0.yq3,zz0.zq3]; omega) hne, zz0.zq9, if_neg hne, zz0.zz9, if_neg (by omega)]
    · simp only [List.take_zero,yz4]
      exact ⟨by omega, by omega, fun _ => by omega, fun hlt => by omega⟩
end Go.AI
end
