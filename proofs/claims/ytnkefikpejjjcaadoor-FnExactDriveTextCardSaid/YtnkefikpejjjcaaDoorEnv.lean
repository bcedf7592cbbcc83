/-
  THE ENGINE'S TABLE OF THIS PROGRAM'S TYPES AND FUNCTIONS, with its proof. Written by env.py (own work).
-/
import Derived.Test.YtnkefikpejjjcaaDoorEnW
import Derived.Test.YtnkefikpejjjcaaDoorRows
import Derived.KernelRfl
set_option linter.unusedVariables false
set_option linter.unusedSimpArgs false
set_option maxRecDepth 100000
namespace Go.Proofs.YtnkefikpejjjcaaDoor.Env
open Go.En

def look {α : Type} : List (Nat × α) → Nat → Option α
  | [], _ => none
  | (j, x) :: r, i => match Nat.beq i j with | true => some x | false => look r i
theorem look_mem {α : Type} : ∀ {l : List (Nat × α)} {i : Nat} {x : α}, look l i = some x → (i, x) ∈ l
  | [], _, _, h => by cases h
  | (j, y) :: r, i, x, h => by
    simp only [look] at h
    split at h
    · rename_i e
      cases h
      rw [Nat.eq_of_beq_eq_true e]
      simp
    · exact List.mem_cons_of_mem _ (look_mem h)
theorem cn0 (k : FloatKind) : cn k 0 = 0 := by cases k <;> decide
def t1 : TI := ⟨.other, 1, 8, false, [.nilf]⟩
def t2 : TI := ⟨.int .i64, 1, 8, false, [.int .i64 0]⟩
def t3 : TI := ⟨.int .i64, 1, 8, false, [.int .i64 0]⟩
def t4 : TI := ⟨.bool, 1, 1, false, [.bool false]⟩
def t5 : TI := ⟨.int .u8, 1, 1, false, [.int .u8 0]⟩
def t6 : TI := ⟨.int .u8, 1, 1, false, [.int .u8 0]⟩
def t7 : TI := ⟨.struct [(0, 2), (1, 3), (2, 4), (3, 6)], 4, 24, true, [.int .i64 0, .int .i64 0, .bool false, .int .u8 0]⟩
def t8 : TI := ⟨.struct [(0, 2), (1, 3), (2, 4), (3, 6)], 4, 24, true, [.int .i64 0, .int .i64 0, .bool false, .int .u8 0]⟩
def t9 : TI := ⟨.string, 1, 16, false, [.str ⟨⟨[]⟩⟩]⟩
def t10 : TI := ⟨.string, 1, 16, false, [.str ⟨⟨[]⟩⟩]⟩
def t11 : TI := ⟨.string, 1, 16, false, [.str ⟨⟨[]⟩⟩]⟩
def t12 : TI := ⟨.int .u64, 1, 8, false, [.int .u64 0]⟩
def t13 : TI := ⟨.struct [(0, 9), (1, 12)], 2, 24, true, [.str ⟨⟨[]⟩⟩, .int .u64 0]⟩
def t14 : TI := ⟨.struct [(0, 9), (1, 12)], 2, 24, true, [.str ⟨⟨[]⟩⟩, .int .u64 0]⟩
def t15 : TI := ⟨.other, 1, 8, false, [.nilp]⟩
def t16 : TI := ⟨.other, 1, 8, false, [.nilp]⟩
def t17 : TI := ⟨.other, 1, 8, false, [.nilp]⟩
def t18 : TI := ⟨.struct [(0, 17)], 1, 8, true, [.nilp]⟩
def t19 : TI := ⟨.struct [(0, 17)], 1, 8, true, [.nilp]⟩
def t20 : TI := ⟨.ifc, 1, 16, false, [.ifc true]⟩
def t21 : TI := ⟨.int .i32, 1, 4, false, [.int .i32 0]⟩
def t22 : TI := ⟨.flt .f32, 1, 4, false, [.flt .f32 0]⟩
def t23 : TI := ⟨.struct [(0, 22), (1, 22), (2, 22), (3, 22), (4, 22), (5, 22), (6, 22), (7, 22)], 8, 32, true, [.flt .f32 0, .flt .f32 0, .flt .f32 0, .flt .f32 0, .flt .f32 0, .flt .f32 0, .flt .f32 0, .flt .f32 0]⟩
def t24 : TI := ⟨.struct [(0, 22), (1, 22), (2, 22), (3, 22), (4, 22), (5, 22), (6, 22), (7, 22)], 8, 32, true, [.flt .f32 0, .flt .f32 0, .flt .f32 0, .flt .f32 0, .flt .f32 0, .flt .f32 0, .flt .f32 0, .flt .f32 0]⟩
def t25 : TI := ⟨.struct [(0, 24), (8, 2), (9, 22), (10, 22), (11, 22)], 12, 56, true, [.flt .f32 0, .flt .f32 0, .flt .f32 0, .flt .f32 0, .flt .f32 0, .flt .f32 0, .flt .f32 0, .flt .f32 0, .int .i64 0, .flt .f32 0, .flt .f32 0, .flt .f32 0]⟩
def t26 : TI := ⟨.struct [(0, 24), (8, 2), (9, 22), (10, 22), (11, 22)], 12, 56, true, [.flt .f32 0, .flt .f32 0, .flt .f32 0, .flt .f32 0, .flt .f32 0, .flt .f32 0, .flt .f32 0, .flt .f32 0, .int .i64 0, .flt .f32 0, .flt .f32 0, .flt .f32 0]⟩
def t28 : TI := ⟨.other, 1, 8, false, [.nilf]⟩
def t29 : TI := ⟨.struct [(0, 22), (1, 22), (2, 22), (3, 22), (4, 22), (5, 22), (6, 22), (7, 22)], 8, 32, true, [.flt .f32 0, .flt .f32 0, .flt .f32 0, .flt .f32 0, .flt .f32 0, .flt .f32 0, .flt .f32 0, .flt .f32 0]⟩
def t30 : TI := ⟨.struct [(0, 29), (8, 2), (9, 22), (10, 22), (11, 22)], 12, 56, true, [.flt .f32 0, .flt .f32 0, .flt .f32 0, .flt .f32 0, .flt .f32 0, .flt .f32 0, .flt .f32 0, .flt .f32 0, .int .i64 0, .flt .f32 0, .flt .f32 0, .flt .f32 0]⟩
def t31 : TI := ⟨.struct [(0, 29), (8, 2), (9, 22), (10, 22), (11, 22)], 12, 56, true, [.flt .f32 0, .flt .f32 0, .flt .f32 0, .flt .f32 0, .flt .f32 0, .flt .f32 0, .flt .f32 0, .flt .f32 0, .int .i64 0, .flt .f32 0, .flt .f32 0, .flt .f32 0]⟩
def t32 : TI := ⟨.other, 1, 8, false, [.nilf]⟩
def t33 : TI := ⟨.other, 1, 8, false, [.nilf]⟩
def t34 : TI := ⟨.slice 22 .f32, 1, 24, false, [.nils .f32]⟩
def t35 : TI := ⟨.struct [(0, 34), (1, 34), (2, 34)], 3, 72, true, [.nils .f32, .nils .f32, .nils .f32]⟩
def t36 : TI := ⟨.struct [(0, 34), (1, 34), (2, 34)], 3, 72, true, [.nils .f32, .nils .f32, .nils .f32]⟩
def t37 : TI := ⟨.other, 1, 8, false, [.nilf]⟩
def t38 : TI := ⟨.other, 1, 8, false, [.nilf]⟩
def t39 : TI := ⟨.struct [(0, 34), (1, 34), (2, 34)], 3, 72, true, [.nils .f32, .nils .f32, .nils .f32]⟩
def t40 : TI := ⟨.other, 1, 8, false, [.nilf]⟩
def t41 : TI := ⟨.other, 1, 8, false, [.nilf]⟩
def t42 : TI := ⟨.other, 1, 8, false, [.nilf]⟩
def t43 : TI := ⟨.struct [(0, 34), (1, 34), (2, 22), (3, 22), (4, 22)], 5, 64, true, [.nils .f32, .nils .f32, .flt .f32 0, .flt .f32 0, .flt .f32 0]⟩
def t44 : TI := ⟨.struct [(0, 34), (1, 34), (2, 22), (3, 22), (4, 22)], 5, 64, true, [.nils .f32, .nils .f32, .flt .f32 0, .flt .f32 0, .flt .f32 0]⟩
def t45 : TI := ⟨.other, 1, 8, false, [.nilf]⟩
def t46 : TI := ⟨.other, 1, 8, false, [.nilf]⟩
def t47 : TI := ⟨.struct [(0, 34), (1, 34), (2, 22), (3, 22), (4, 22)], 5, 64, true, [.nils .f32, .nils .f32, .flt .f32 0, .flt .f32 0, .flt .f32 0]⟩
def t48 : TI := ⟨.other, 1, 8, false, [.nilf]⟩
def t49 : TI := ⟨.other, 1, 8, false, [.nilf]⟩
def t50 : TI := ⟨.other, 1, 8, false, [.nilf]⟩
def t51 : TI := ⟨.slice 108 .r3, 1, 24, false, [.nils .r3]⟩
def t52 : TI := ⟨.struct [(0, 36), (3, 51), (4, 2), (5, 22), (6, 22)], 7, 112, true, [.nils .f32, .nils .f32, .nils .f32, .nils .r3, .int .i64 0, .flt .f32 0, .flt .f32 0]⟩
def t53 : TI := ⟨.struct [(0, 36), (3, 51), (4, 2), (5, 22), (6, 22)], 7, 112, true, [.nils .f32, .nils .f32, .nils .f32, .nils .r3, .int .i64 0, .flt .f32 0, .flt .f32 0]⟩
def t54 : TI := ⟨.other, 1, 8, false, [.nilf]⟩
def t55 : TI := ⟨.other, 1, 8, false, [.nilf]⟩
def t56 : TI := ⟨.slice 91 .r3, 1, 24, false, [.nils .r3]⟩
def t57 : TI := ⟨.struct [(0, 39), (3, 56), (4, 2), (5, 22), (6, 22)], 7, 112, true, [.nils .f32, .nils .f32, .nils .f32, .nils .r3, .int .i64 0, .flt .f32 0, .flt .f32 0]⟩
def t58 : TI := ⟨.struct [(0, 39), (3, 56), (4, 2), (5, 22), (6, 22)], 7, 112, true, [.nils .f32, .nils .f32, .nils .f32, .nils .r3, .int .i64 0, .flt .f32 0, .flt .f32 0]⟩
def t59 : TI := ⟨.other, 1, 8, false, [.nilf]⟩
def t60 : TI := ⟨.other, 1, 8, false, [.nilf]⟩
def t61 : TI := ⟨.other, 1, 8, false, [.nilf]⟩
def t62 : TI := ⟨.other, 1, 8, false, [.nilf]⟩
def t63 : TI := ⟨.other, 1, 8, false, [.nilp]⟩
def t64 : TI := ⟨.other, 1, 8, false, [.nilf]⟩
def t65 : TI := ⟨.other, 1, 8, false, [.nilf]⟩
def t66 : TI := ⟨.other, 1, 8, false, [.nilf]⟩
def t67 : TI := ⟨.other, 1, 8, false, [.nilf]⟩
def t68 : TI := ⟨.other, 1, 8, false, [.nilf]⟩
def t69 : TI := ⟨.other, 1, 8, false, [.nilf]⟩
def t70 : TI := ⟨.other, 1, 8, false, [.nilf]⟩
def t71 : TI := ⟨.other, 1, 8, false, [.nilf]⟩
def t72 : TI := ⟨.other, 1, 8, false, [.nilp]⟩
def t73 : TI := ⟨.other, 1, 8, false, [.nilf]⟩
def t74 : TI := ⟨.other, 1, 8, false, [.nilf]⟩
def t75 : TI := ⟨.other, 1, 8, false, [.nilf]⟩
def t76 : TI := ⟨.other, 1, 8, false, [.nilf]⟩
def t77 : TI := ⟨.other, 1, 8, false, [.nilf]⟩
def t78 : TI := ⟨.other, 1, 8, false, [.nilf]⟩
def t79 : TI := ⟨.other, 1, 8, false, [.nilp]⟩
def t80 : TI := ⟨.other, 1, 8, false, [.nilf]⟩
def t81 : TI := ⟨.other, 1, 8, false, [.nilf]⟩
def t82 : TI := ⟨.other, 1, 8, false, [.nilf]⟩
def t83 : TI := ⟨.flt .f64, 1, 8, false, [.flt .f64 0]⟩
def t84 : TI := ⟨.other, 1, 8, false, [.nilf]⟩
def t85 : TI := ⟨.other, 1, 8, false, [.nilf]⟩
def t86 : TI := ⟨.other, 1, 8, false, [.nilp]⟩
def t87 : TI := ⟨.other, 1, 8, false, [.nilf]⟩
def t88 : TI := ⟨.other, 1, 8, false, [.nilf]⟩
def t89 : TI := ⟨.other, 1, 8, false, [.nilf]⟩
def t90 : TI := ⟨.struct [(0, 22), (1, 22), (2, 22)], 3, 12, true, [.flt .f32 0, .flt .f32 0, .flt .f32 0]⟩
def t91 : TI := ⟨.struct [(0, 22), (1, 22), (2, 22)], 3, 12, true, [.flt .f32 0, .flt .f32 0, .flt .f32 0]⟩
def t92 : TI := ⟨.other, 1, 8, false, [.nilf]⟩
def t93 : TI := ⟨.other, 1, 8, false, [.nilf]⟩
def t94 : TI := ⟨.other, 1, 8, false, [.nilp]⟩
def t95 : TI := ⟨.other, 1, 8, false, [.nilf]⟩
def t96 : TI := ⟨.other, 1, 8, false, [.nilf]⟩
def t97 : TI := ⟨.other, 1, 8, false, [.nilf]⟩
def t98 : TI := ⟨.other, 1, 8, false, [.nilf]⟩
def t99 : TI := ⟨.other, 1, 8, false, [.nilf]⟩
def t100 : TI := ⟨.other, 1, 8, false, [.nilf]⟩
def t101 : TI := ⟨.other, 1, 8, false, [.nilf]⟩
def t102 : TI := ⟨.other, 1, 8, false, [.nilf]⟩
def t103 : TI := ⟨.other, 1, 8, false, [.nilf]⟩
def t104 : TI := ⟨.other, 1, 8, false, [.nilf]⟩
def t105 : TI := ⟨.other, 1, 8, false, [.nilf]⟩
def t106 : TI := ⟨.other, 1, 8, false, [.nilp]⟩
def t107 : TI := ⟨.other, 1, 8, false, [.nilf]⟩
def t108 : TI := ⟨.struct [(0, 22), (1, 22), (2, 22)], 3, 12, true, [.flt .f32 0, .flt .f32 0, .flt .f32 0]⟩
def t109 : TI := ⟨.other, 1, 8, false, [.nilf]⟩
def t110 : TI := ⟨.other, 1, 8, false, [.nilf]⟩
def t111 : TI := ⟨.slice 5 .u8, 1, 24, false, [.nils .u8]⟩
def t112 : TI := ⟨.slice 9 .str, 1, 24, false, [.nils .str]⟩
def t113 : TI := ⟨.other, 1, 8, false, [.nilf]⟩
def t114 : TI := ⟨.other, 1, 8, false, [.nilf]⟩
def t115 : TI := ⟨.slice 34 .ss, 1, 24, false, [.nils .ss]⟩
def t116 : TI := ⟨.other, 1, 8, false, [.nilf]⟩
def t117 : TI := ⟨.other, 1, 8, false, [.nilf]⟩
def t118 : TI := ⟨.int .u64, 1, 8, false, [.int .u64 0]⟩
def t119 : TI := ⟨.other, 1, 8, false, [.nilf]⟩
def t120 : TI := ⟨.other, 1, 8, false, [.nilf]⟩
def t121 : TI := ⟨.other, 1, 8, false, [.nilf]⟩
def t122 : TI := ⟨.array 24 5, 24, 24, true, [.int .u8 0, .int .u8 0, .int .u8 0, .int .u8 0, .int .u8 0, .int .u8 0, .int .u8 0, .int .u8 0, .int .u8 0, .int .u8 0, .int .u8 0, .int .u8 0, .int .u8 0, .int .u8 0, .int .u8 0, .int .u8 0, .int .u8 0, .int .u8 0, .int .u8 0, .int .u8 0, .int .u8 0, .int .u8 0, .int .u8 0, .int .u8 0]⟩
def t123 : TI := ⟨.int .u64, 1, 8, false, [.int .u64 0]⟩
def t124 : TI := ⟨.other, 1, 8, false, [.nilf]⟩
def t125 : TI := ⟨.other, 1, 8, false, [.nilf]⟩
def t127 : TI := ⟨.other, 1, 8, false, [.nilf]⟩
def t128 : TI := ⟨.int .u32, 1, 4, false, [.int .u32 0]⟩
def t129 : TI := ⟨.other, 1, 8, false, [.nilf]⟩
def t131 : TI := ⟨.other, 1, 8, false, [.nilf]⟩
def t132 : TI := ⟨.other, 1, 8, false, [.nilf]⟩
def t133 : TI := ⟨.other, 1, 8, false, [.nilp]⟩
def t134 : TI := ⟨.struct [(0, 133), (1, 111)], 2, 32, true, [.nilp, .nils .u8]⟩
def t135 : TI := ⟨.struct [(0, 133), (1, 111)], 2, 32, true, [.nilp, .nils .u8]⟩
def t136 : TI := ⟨.other, 1, 8, false, [.nilf]⟩
def t137 : TI := ⟨.ifc, 1, 16, false, [.ifc true]⟩
def t138 : TI := ⟨.ifc, 1, 16, false, [.ifc true]⟩
def t140 : TI := ⟨.other, 1, 8, false, [.nilf]⟩
def t141 : TI := ⟨.other, 1, 8, false, [.nilf]⟩
def t142 : TI := ⟨.other, 1, 8, false, [.nilf]⟩
def t143 : TI := ⟨.other, 1, 8, false, [.nilf]⟩
def t144 : TI := ⟨.other, 1, 8, false, [.nilf]⟩
def t145 : TI := ⟨.array 20 123, 20, 160, true, [.int .u64 0, .int .u64 0, .int .u64 0, .int .u64 0, .int .u64 0, .int .u64 0, .int .u64 0, .int .u64 0, .int .u64 0, .int .u64 0, .int .u64 0, .int .u64 0, .int .u64 0, .int .u64 0, .int .u64 0, .int .u64 0, .int .u64 0, .int .u64 0, .int .u64 0, .int .u64 0]⟩
def t146 : TI := ⟨.array 65 5, 65, 65, true, List.replicate 65 (.int .u8 0)⟩
def t147 : TI := ⟨.other, 1, 8, false, [.nilf]⟩
def t148 : TI := ⟨.other, 1, 8, false, [.nilf]⟩
def t150 : TI := ⟨.other, 1, 8, false, [.nilf]⟩
def t152 : TI := ⟨.other, 1, 8, false, [.nilf]⟩
def t153 : TI := ⟨.other, 1, 8, false, [.nilp]⟩
def t154 : TI := ⟨.other, 1, 8, false, [.nilf]⟩
def t156 : TI := ⟨.other, 1, 8, false, [.nilf]⟩
def t157 : TI := ⟨.other, 1, 8, false, [.nilf]⟩
def t158 : TI := ⟨.array 32 5, 32, 32, true, [.int .u8 0, .int .u8 0, .int .u8 0, .int .u8 0, .int .u8 0, .int .u8 0, .int .u8 0, .int .u8 0, .int .u8 0, .int .u8 0, .int .u8 0, .int .u8 0, .int .u8 0, .int .u8 0, .int .u8 0, .int .u8 0, .int .u8 0, .int .u8 0, .int .u8 0, .int .u8 0, .int .u8 0, .int .u8 0, .int .u8 0, .int .u8 0, .int .u8 0, .int .u8 0, .int .u8 0, .int .u8 0, .int .u8 0, .int .u8 0, .int .u8 0, .int .u8 0]⟩
def t159 : TI := ⟨.array 64 5, 64, 64, true, List.replicate 64 (.int .u8 0)⟩
def t160 : TI := ⟨.struct [(0, 17), (1, 17), (2, 17), (3, 9)], 4, 40, true, [.nilp, .nilp, .nilp, .str ⟨⟨[]⟩⟩]⟩
def t161 : TI := ⟨.struct [(0, 17), (1, 17), (2, 17), (3, 9)], 4, 40, true, [.nilp, .nilp, .nilp, .str ⟨⟨[]⟩⟩]⟩
def t162 : TI := ⟨.array 0 16, 0, 0, true, []⟩
def t163 : TI := ⟨.struct [(0, 162)], 0, 0, true, []⟩
def t164 : TI := ⟨.struct [(0, 162)], 0, 0, true, []⟩
def t165 : TI := ⟨.int .u8, 1, 1, false, [.int .u8 0]⟩
def t166 : TI := ⟨.int .u8, 1, 1, false, [.int .u8 0]⟩
def t167 : TI := ⟨.other, 1, 8, false, [.nilf]⟩
def t168 : TI := ⟨.int .i32, 1, 4, false, [.int .i32 0]⟩
def t169 : TI := ⟨.int .i32, 1, 4, false, [.int .i32 0]⟩
def t170 : TI := ⟨.struct [(0, 12), (1, 12), (2, 128), (3, 165), (4, 5), (5, 5), (6, 166), (7, 167), (8, 153), (9, 168), (10, 169)], 11, 48, true, [.int .u64 0, .int .u64 0, .int .u32 0, .int .u8 0, .int .u8 0, .int .u8 0, .int .u8 0, .nilf, .nilp, .int .i32 0, .int .i32 0]⟩
def t171 : TI := ⟨.struct [(0, 12), (1, 12), (2, 128), (3, 165), (4, 5), (5, 5), (6, 166), (7, 167), (8, 153), (9, 168), (10, 169)], 11, 48, true, [.int .u64 0, .int .u64 0, .int .u32 0, .int .u8 0, .int .u8 0, .int .u8 0, .int .u8 0, .nilf, .nilp, .int .i32 0, .int .i32 0]⟩
def tab : List (Nat × TI) := [(1, t1), (2, t2), (3, t3), (4, t4), (5, t5), (6, t6), (7, t7), (8, t8), (9, t9), (10, t10), (11, t11), (12, t12), (13, t13), (14, t14), (15, t15), (16, t16), (17, t17), (18, t18), (19, t19), (20, t20), (21, t21), (22, t22), (23, t23), (24, t24), (25, t25), (26, t26), (28, t28), (29, t29), (30, t30), (31, t31), (32, t32), (33, t33), (34, t34), (35, t35), (36, t36), (37, t37), (38, t38), (39, t39), (40, t40), (41, t41), (42, t42), (43, t43), (44, t44), (45, t45), (46, t46), (47, t47), (48, t48), (49, t49), (50, t50), (51, t51), (52, t52), (53, t53), (54, t54), (55, t55), (56, t56), (57, t57), (58, t58), (59, t59), (60, t60), (61, t61), (62, t62), (63, t63), (64, t64), (65, t65), (66, t66), (67, t67), (68, t68), (69, t69), (70, t70), (71, t71), (72, t72), (73, t73), (74, t74), (75, t75), (76, t76), (77, t77), (78, t78), (79, t79), (80, t80), (81, t81), (82, t82), (83, t83), (84, t84), (85, t85), (86, t86), (87, t87), (88, t88), (89, t89), (90, t90), (91, t91), (92, t92), (93, t93), (94, t94), (95, t95), (96, t96), (97, t97), (98, t98), (99, t99), (100, t100), (101, t101), (102, t102), (103, t103), (104, t104), (105, t105), (106, t106), (107, t107), (108, t108), (109, t109), (110, t110), (111, t111), (112, t112), (113, t113), (114, t114), (115, t115), (116, t116), (117, t117), (118, t118), (119, t119), (120, t120), (121, t121), (122, t122), (123, t123), (124, t124), (125, t125), (127, t127), (128, t128), (129, t129), (131, t131), (132, t132), (133, t133), (134, t134), (135, t135), (136, t136), (137, t137), (138, t138), (140, t140), (141, t141), (142, t142), (143, t143), (144, t144), (145, t145), (146, t146), (147, t147), (148, t148), (150, t150), (152, t152), (153, t153), (154, t154), (156, t156), (157, t157), (158, t158), (159, t159), (160, t160), (161, t161), (162, t162), (163, t163), (164, t164), (165, t165), (166, t166), (167, t167), (168, t168), (169, t169), (170, t170), (171, t171)]

def ftab : List (Nat × FK) := [(3, .body), (4, .body), (5, .body), (6, .body), (7, .body), (8, .body), (9, .body), (10, .body), (11, .body), (12, .body), (13, .body), (14, .body), (15, .body), (16, .body), (17, .body), (18, .body), (19, .body), (20, .body), (21, .body), (22, .body), (23, .body), (24, .body), (25, .body), (26, .body), (27, .body), (28, .body), (29, .body), (30, .body), (31, .body), (32, .body), (33, .body), (34, .body), (35, .body), (36, .body), (37, .body), (38, .body), (39, .body), (40, .body), (41, .body), (42, .body), (43, .body), (44, .body), (45, .body), (46, .body), (47, .body), (48, .body), (49, .body), (50, .body), (51, .body), (52, .body), (53, .body), (54, .body), (55, .body), (56, .body), (57, .body), (58, .body), (59, .body), (60, .body), (61, .body), (62, .body), (63, .body), (64, .body), (65, .body), (66, .body), (67, .body), (68, .body), (69, .body), (70, .body), (71, .body), (72, .body), (73, .body), (74, .body), (75, .body), (76, .body), (77, .body), (78, .body), (79, .body), (80, .body), (81, .body), (82, .body), (83, .body), (84, .body), (85, .body), (86, .body), (87, .body), (88, .body), (89, .body), (90, .f32bits), (91, .body), (92, .body), (93, .body), (94, .body), (95, .body), (96, .body), (97, .body), (98, .body), (99, .body), (100, .body), (101, .body), (102, .body), (103, .body), (104, .body), (105, .body), (106, .body), (107, .body), (108, .body), (136, .body)]
def gtab : List (Nat × Cont) := [(2, .u8 [0, 1, 28, 2, 29, 14, 24, 3, 30, 22, 20, 15, 25, 17, 4, 8, 31, 27, 13, 23, 21, 19, 16, 7, 26, 12, 18, 6, 11, 5, 10, 9]), (3, .u8 [0, 1, 56, 2, 57, 49, 28, 3, 61, 58, 42, 50, 38, 29, 17, 4, 62, 47, 59, 36, 45, 43, 51, 22, 53, 39, 33, 30, 24, 18, 12, 5, 63, 55, 48, 27, 60, 41, 37, 16, 46, 35, 44, 21, 52, 32, 23, 11, 54, 26, 40, 15, 34, 20, 31, 10, 25, 14, 19, 9, 13, 8, 7, 6])]
def E : Env where
  T := fun t => look tab t
  F := fun f => match look ftab f with | some k => k | none => .none
  G := fun i => look gtab i

noncomputable def pg : PG := ⟨Tryd.prog, E.G⟩
theorem RdL_rep {g : Gh} {v : V} {x : Value} (h : Rd g v x) : ∀ n, RdL g (List.replicate n v) (List.replicate n x)
  | 0 => trivial
  | n + 1 => ⟨h, RdL_rep h n⟩
theorem ti_of {t : Nat} {ti : TI} {d : TypeDesc} {z : Value} (hu : Tryd.prog.underlying t = some d) (hd : TDok E ti.desc d) (ha : aggOf d = ti.agg) (hi : (Tryd.prog.info? t).map (fun i => (i.size, i.bytes)) = some (ti.cells, ti.bytes)) (hz : ((Tryd.prog.info? t).bind fun i => i.zero) = some z) (hs : z.cells.size = ti.cells) (hr : RdL ⟨fun _ => none, []⟩ ti.zero z.cells.toList) (h1 : solids ti.zero = true) : TIok Tryd.prog E t ti := by
  refine ⟨⟨d, hu, hd, ha⟩, ?_⟩
  cases h : Tryd.prog.info? t with
  | none => rw [h] at hi; cases hi
  | some i =>
    rw [h] at hi hz
    simp at hi
    exact ⟨i, rfl, hi.1, hi.2, fun _ => ⟨z, hz, hs, hr, RdL_one hr (solids_mem h1)⟩⟩
theorem ti_of0 {t : Nat} {ti : TI} {d : TypeDesc} (hu : Tryd.prog.underlying t = some d) (hd : TDok E ti.desc d) (ha : aggOf d = ti.agg) (hi : (Tryd.prog.info? t).map (fun i => (i.size, i.bytes)) = some (ti.cells, ti.bytes)) (h0 : ti.zero = []) : TIok Tryd.prog E t ti := by
  refine ⟨⟨d, hu, hd, ha⟩, ?_⟩
  cases h : Tryd.prog.info? t with
  | none => rw [h] at hi; cases hi
  | some i =>
    rw [h] at hi
    simp at hi
    exact ⟨i, rfl, hi.1, hi.2, fun hn => absurd h0 hn⟩
theorem ok1 : TIok Tryd.prog E 1 t1 := ti_of (z := .nilFunc) Tryd.underlying1 (trivial) rfl (by kernel_rfl) (by kernel_rfl) rfl ⟨rfl, trivial⟩ rfl
theorem ok2 : TIok Tryd.prog E 2 t2 := ti_of (z := .int .i64 0) Tryd.underlying2 (rfl) rfl (by kernel_rfl) (by kernel_rfl) rfl ⟨rfl, trivial⟩ rfl
theorem ok3 : TIok Tryd.prog E 3 t3 := ti_of (z := .int .i64 0) Tryd.underlying3 (rfl) rfl (by kernel_rfl) (by kernel_rfl) rfl ⟨rfl, trivial⟩ rfl
theorem ok4 : TIok Tryd.prog E 4 t4 := ti_of (z := .bool false) Tryd.underlying4 (rfl) rfl (by kernel_rfl) (by kernel_rfl) rfl ⟨rfl, trivial⟩ rfl
theorem ok5 : TIok Tryd.prog E 5 t5 := ti_of (z := .int .u8 0) Tryd.underlying5 (rfl) rfl (by kernel_rfl) (by kernel_rfl) rfl ⟨rfl, trivial⟩ rfl
theorem ok6 : TIok Tryd.prog E 6 t6 := ti_of (z := .int .u8 0) Tryd.underlying6 (rfl) rfl (by kernel_rfl) (by kernel_rfl) rfl ⟨rfl, trivial⟩ rfl
theorem ok7 : TIok Tryd.prog E 7 t7 := ti_of (z := .agg #[.int .i64 0, .int .i64 0, .bool false, .int .u8 0]) Tryd.underlying7 (⟨_, rfl, by rfl, by intro p hp; simp only [t7, List.mem_cons, List.not_mem_nil, or_false] at hp; rcases hp with rfl | rfl | rfl | rfl <;> exact ⟨_, rfl⟩⟩) rfl (by kernel_rfl) (by kernel_rfl) rfl ⟨rfl, ⟨rfl, ⟨rfl, ⟨rfl, trivial⟩⟩⟩⟩ rfl
theorem ok8 : TIok Tryd.prog E 8 t8 := ti_of (z := .agg #[.int .i64 0, .int .i64 0, .bool false, .int .u8 0]) Tryd.underlying8 (⟨_, rfl, by rfl, by intro p hp; simp only [t8, List.mem_cons, List.not_mem_nil, or_false] at hp; rcases hp with rfl | rfl | rfl | rfl <;> exact ⟨_, rfl⟩⟩) rfl (by kernel_rfl) (by kernel_rfl) rfl ⟨rfl, ⟨rfl, ⟨rfl, ⟨rfl, trivial⟩⟩⟩⟩ rfl
theorem ok9 : TIok Tryd.prog E 9 t9 := ti_of (z := .string ⟨#[]⟩) Tryd.underlying9 (rfl) rfl (by kernel_rfl) (by kernel_rfl) rfl ⟨rfl, trivial⟩ rfl
theorem ok10 : TIok Tryd.prog E 10 t10 := ti_of (z := .string ⟨#[]⟩) Tryd.underlying10 (rfl) rfl (by kernel_rfl) (by kernel_rfl) rfl ⟨rfl, trivial⟩ rfl
theorem ok11 : TIok Tryd.prog E 11 t11 := ti_of (z := .string ⟨#[]⟩) Tryd.underlying11 (rfl) rfl (by kernel_rfl) (by kernel_rfl) rfl ⟨rfl, trivial⟩ rfl
theorem ok12 : TIok Tryd.prog E 12 t12 := ti_of (z := .int .u64 0) Tryd.underlying12 (rfl) rfl (by kernel_rfl) (by kernel_rfl) rfl ⟨rfl, trivial⟩ rfl
theorem ok13 : TIok Tryd.prog E 13 t13 := ti_of (z := .agg #[.string ⟨#[]⟩, .int .u64 0]) Tryd.underlying13 (⟨_, rfl, by rfl, by intro p hp; simp only [t13, List.mem_cons, List.not_mem_nil, or_false] at hp; rcases hp with rfl | rfl <;> exact ⟨_, rfl⟩⟩) rfl (by kernel_rfl) (by kernel_rfl) rfl ⟨rfl, ⟨rfl, trivial⟩⟩ rfl
theorem ok14 : TIok Tryd.prog E 14 t14 := ti_of (z := .agg #[.string ⟨#[]⟩, .int .u64 0]) Tryd.underlying14 (⟨_, rfl, by rfl, by intro p hp; simp only [t14, List.mem_cons, List.not_mem_nil, or_false] at hp; rcases hp with rfl | rfl <;> exact ⟨_, rfl⟩⟩) rfl (by kernel_rfl) (by kernel_rfl) rfl ⟨rfl, ⟨rfl, trivial⟩⟩ rfl
theorem ok15 : TIok Tryd.prog E 15 t15 := ti_of (z := .pointer none) Tryd.underlying15 (trivial) rfl (by kernel_rfl) (by kernel_rfl) rfl ⟨rfl, trivial⟩ rfl
theorem ok16 : TIok Tryd.prog E 16 t16 := ti_of (z := .pointer none) Tryd.underlying16 (trivial) rfl (by kernel_rfl) (by kernel_rfl) rfl ⟨rfl, trivial⟩ rfl
theorem ok17 : TIok Tryd.prog E 17 t17 := ti_of (z := .pointer none) Tryd.underlying17 (trivial) rfl (by kernel_rfl) (by kernel_rfl) rfl ⟨rfl, trivial⟩ rfl
theorem ok18 : TIok Tryd.prog E 18 t18 := ti_of (z := .agg #[.pointer none]) Tryd.underlying18 (⟨_, rfl, by rfl, by intro p hp; simp only [t18, List.mem_cons, List.not_mem_nil, or_false] at hp; rcases hp with rfl <;> exact ⟨_, rfl⟩⟩) rfl (by kernel_rfl) (by kernel_rfl) rfl ⟨rfl, trivial⟩ rfl
theorem ok19 : TIok Tryd.prog E 19 t19 := ti_of (z := .agg #[.pointer none]) Tryd.underlying19 (⟨_, rfl, by rfl, by intro p hp; simp only [t19, List.mem_cons, List.not_mem_nil, or_false] at hp; rcases hp with rfl <;> exact ⟨_, rfl⟩⟩) rfl (by kernel_rfl) (by kernel_rfl) rfl ⟨rfl, trivial⟩ rfl
theorem ok20 : TIok Tryd.prog E 20 t20 := ti_of (z := .nilIface) Tryd.underlying20 (⟨_, rfl⟩) rfl (by kernel_rfl) (by kernel_rfl) rfl ⟨rfl, trivial⟩ rfl
theorem ok21 : TIok Tryd.prog E 21 t21 := ti_of (z := .int .i32 0) Tryd.underlying21 (rfl) rfl (by kernel_rfl) (by kernel_rfl) rfl ⟨rfl, trivial⟩ rfl
theorem ok22 : TIok Tryd.prog E 22 t22 := ti_of (z := .float .f32 0) Tryd.underlying22 (rfl) rfl (by kernel_rfl) (by kernel_rfl) rfl ⟨⟨0, rfl, cn0 _⟩, trivial⟩ rfl
theorem ok23 : TIok Tryd.prog E 23 t23 := ti_of (z := .agg #[.float .f32 0, .float .f32 0, .float .f32 0, .float .f32 0, .float .f32 0, .float .f32 0, .float .f32 0, .float .f32 0]) Tryd.underlying23 (⟨_, rfl, by rfl, by intro p hp; simp only [t23, List.mem_cons, List.not_mem_nil, or_false] at hp; rcases hp with rfl | rfl | rfl | rfl | rfl | rfl | rfl | rfl <;> exact ⟨_, rfl⟩⟩) rfl (by kernel_rfl) (by kernel_rfl) rfl ⟨⟨0, rfl, cn0 _⟩, ⟨⟨0, rfl, cn0 _⟩, ⟨⟨0, rfl, cn0 _⟩, ⟨⟨0, rfl, cn0 _⟩, ⟨⟨0, rfl, cn0 _⟩, ⟨⟨0, rfl, cn0 _⟩, ⟨⟨0, rfl, cn0 _⟩, ⟨⟨0, rfl, cn0 _⟩, trivial⟩⟩⟩⟩⟩⟩⟩⟩ rfl
theorem ok24 : TIok Tryd.prog E 24 t24 := ti_of (z := .agg #[.float .f32 0, .float .f32 0, .float .f32 0, .float .f32 0, .float .f32 0, .float .f32 0, .float .f32 0, .float .f32 0]) Tryd.underlying24 (⟨_, rfl, by rfl, by intro p hp; simp only [t24, List.mem_cons, List.not_mem_nil, or_false] at hp; rcases hp with rfl | rfl | rfl | rfl | rfl | rfl | rfl | rfl <;> exact ⟨_, rfl⟩⟩) rfl (by kernel_rfl) (by kernel_rfl) rfl ⟨⟨0, rfl, cn0 _⟩, ⟨⟨0, rfl, cn0 _⟩, ⟨⟨0, rfl, cn0 _⟩, ⟨⟨0, rfl, cn0 _⟩, ⟨⟨0, rfl, cn0 _⟩, ⟨⟨0, rfl, cn0 _⟩, ⟨⟨0, rfl, cn0 _⟩, ⟨⟨0, rfl, cn0 _⟩, trivial⟩⟩⟩⟩⟩⟩⟩⟩ rfl
theorem ok25 : TIok Tryd.prog E 25 t25 := ti_of (z := .agg #[.float .f32 0, .float .f32 0, .float .f32 0, .float .f32 0, .float .f32 0, .float .f32 0, .float .f32 0, .float .f32 0, .int .i64 0, .float .f32 0, .float .f32 0, .float .f32 0]) Tryd.underlying25 (⟨_, rfl, by rfl, by intro p hp; simp only [t25, List.mem_cons, List.not_mem_nil, or_false] at hp; rcases hp with rfl | rfl | rfl | rfl | rfl <;> exact ⟨_, rfl⟩⟩) rfl (by kernel_rfl) (by kernel_rfl) rfl ⟨⟨0, rfl, cn0 _⟩, ⟨⟨0, rfl, cn0 _⟩, ⟨⟨0, rfl, cn0 _⟩, ⟨⟨0, rfl, cn0 _⟩, ⟨⟨0, rfl, cn0 _⟩, ⟨⟨0, rfl, cn0 _⟩, ⟨⟨0, rfl, cn0 _⟩, ⟨⟨0, rfl, cn0 _⟩, ⟨rfl, ⟨⟨0, rfl, cn0 _⟩, ⟨⟨0, rfl, cn0 _⟩, ⟨⟨0, rfl, cn0 _⟩, trivial⟩⟩⟩⟩⟩⟩⟩⟩⟩⟩⟩⟩ rfl
theorem ok26 : TIok Tryd.prog E 26 t26 := ti_of (z := .agg #[.float .f32 0, .float .f32 0, .float .f32 0, .float .f32 0, .float .f32 0, .float .f32 0, .float .f32 0, .float .f32 0, .int .i64 0, .float .f32 0, .float .f32 0, .float .f32 0]) Tryd.underlying26 (⟨_, rfl, by rfl, by intro p hp; simp only [t26, List.mem_cons, List.not_mem_nil, or_false] at hp; rcases hp with rfl | rfl | rfl | rfl | rfl <;> exact ⟨_, rfl⟩⟩) rfl (by kernel_rfl) (by kernel_rfl) rfl ⟨⟨0, rfl, cn0 _⟩, ⟨⟨0, rfl, cn0 _⟩, ⟨⟨0, rfl, cn0 _⟩, ⟨⟨0, rfl, cn0 _⟩, ⟨⟨0, rfl, cn0 _⟩, ⟨⟨0, rfl, cn0 _⟩, ⟨⟨0, rfl, cn0 _⟩, ⟨⟨0, rfl, cn0 _⟩, ⟨rfl, ⟨⟨0, rfl, cn0 _⟩, ⟨⟨0, rfl, cn0 _⟩, ⟨⟨0, rfl, cn0 _⟩, trivial⟩⟩⟩⟩⟩⟩⟩⟩⟩⟩⟩⟩ rfl
theorem ok28 : TIok Tryd.prog E 28 t28 := ti_of (z := .nilFunc) Tryd.underlying28 (trivial) rfl (by kernel_rfl) (by kernel_rfl) rfl ⟨rfl, trivial⟩ rfl
theorem ok29 : TIok Tryd.prog E 29 t29 := ti_of (z := .agg #[.float .f32 0, .float .f32 0, .float .f32 0, .float .f32 0, .float .f32 0, .float .f32 0, .float .f32 0, .float .f32 0]) Tryd.underlying29 (⟨_, rfl, by rfl, by intro p hp; simp only [t29, List.mem_cons, List.not_mem_nil, or_false] at hp; rcases hp with rfl | rfl | rfl | rfl | rfl | rfl | rfl | rfl <;> exact ⟨_, rfl⟩⟩) rfl (by kernel_rfl) (by kernel_rfl) rfl ⟨⟨0, rfl, cn0 _⟩, ⟨⟨0, rfl, cn0 _⟩, ⟨⟨0, rfl, cn0 _⟩, ⟨⟨0, rfl, cn0 _⟩, ⟨⟨0, rfl, cn0 _⟩, ⟨⟨0, rfl, cn0 _⟩, ⟨⟨0, rfl, cn0 _⟩, ⟨⟨0, rfl, cn0 _⟩, trivial⟩⟩⟩⟩⟩⟩⟩⟩ rfl
theorem ok30 : TIok Tryd.prog E 30 t30 := ti_of (z := .agg #[.float .f32 0, .float .f32 0, .float .f32 0, .float .f32 0, .float .f32 0, .float .f32 0, .float .f32 0, .float .f32 0, .int .i64 0, .float .f32 0, .float .f32 0, .float .f32 0]) Tryd.underlying30 (⟨_, rfl, by rfl, by intro p hp; simp only [t30, List.mem_cons, List.not_mem_nil, or_false] at hp; rcases hp with rfl | rfl | rfl | rfl | rfl <;> exact ⟨_, rfl⟩⟩) rfl (by kernel_rfl) (by kernel_rfl) rfl ⟨⟨0, rfl, cn0 _⟩, ⟨⟨0, rfl, cn0 _⟩, ⟨⟨0, rfl, cn0 _⟩, ⟨⟨0, rfl, cn0 _⟩, ⟨⟨0, rfl, cn0 _⟩, ⟨⟨0, rfl, cn0 _⟩, ⟨⟨0, rfl, cn0 _⟩, ⟨⟨0, rfl, cn0 _⟩, ⟨rfl, ⟨⟨0, rfl, cn0 _⟩, ⟨⟨0, rfl, cn0 _⟩, ⟨⟨0, rfl, cn0 _⟩, trivial⟩⟩⟩⟩⟩⟩⟩⟩⟩⟩⟩⟩ rfl
theorem ok31 : TIok Tryd.prog E 31 t31 := ti_of (z := .agg #[.float .f32 0, .float .f32 0, .float .f32 0, .float .f32 0, .float .f32 0, .float .f32 0, .float .f32 0, .float .f32 0, .int .i64 0, .float .f32 0, .float .f32 0, .float .f32 0]) Tryd.underlying31 (⟨_, rfl, by rfl, by intro p hp; simp only [t31, List.mem_cons, List.not_mem_nil, or_false] at hp; rcases hp with rfl | rfl | rfl | rfl | rfl <;> exact ⟨_, rfl⟩⟩) rfl (by kernel_rfl) (by kernel_rfl) rfl ⟨⟨0, rfl, cn0 _⟩, ⟨⟨0, rfl, cn0 _⟩, ⟨⟨0, rfl, cn0 _⟩, ⟨⟨0, rfl, cn0 _⟩, ⟨⟨0, rfl, cn0 _⟩, ⟨⟨0, rfl, cn0 _⟩, ⟨⟨0, rfl, cn0 _⟩, ⟨⟨0, rfl, cn0 _⟩, ⟨rfl, ⟨⟨0, rfl, cn0 _⟩, ⟨⟨0, rfl, cn0 _⟩, ⟨⟨0, rfl, cn0 _⟩, trivial⟩⟩⟩⟩⟩⟩⟩⟩⟩⟩⟩⟩ rfl
theorem ok32 : TIok Tryd.prog E 32 t32 := ti_of (z := .nilFunc) Tryd.underlying32 (trivial) rfl (by kernel_rfl) (by kernel_rfl) rfl ⟨rfl, trivial⟩ rfl
theorem ok33 : TIok Tryd.prog E 33 t33 := ti_of (z := .nilFunc) Tryd.underlying33 (trivial) rfl (by kernel_rfl) (by kernel_rfl) rfl ⟨rfl, trivial⟩ rfl
theorem ok34 : TIok Tryd.prog E 34 t34 := ti_of (z := .slice none 0 0) Tryd.underlying34 (rfl) rfl (by kernel_rfl) (by kernel_rfl) rfl ⟨rfl, trivial⟩ rfl
theorem ok35 : TIok Tryd.prog E 35 t35 := ti_of (z := .agg #[.slice none 0 0, .slice none 0 0, .slice none 0 0]) Tryd.underlying35 (⟨_, rfl, by rfl, by intro p hp; simp only [t35, List.mem_cons, List.not_mem_nil, or_false] at hp; rcases hp with rfl | rfl | rfl <;> exact ⟨_, rfl⟩⟩) rfl (by kernel_rfl) (by kernel_rfl) rfl ⟨rfl, ⟨rfl, ⟨rfl, trivial⟩⟩⟩ rfl
theorem ok36 : TIok Tryd.prog E 36 t36 := ti_of (z := .agg #[.slice none 0 0, .slice none 0 0, .slice none 0 0]) Tryd.underlying36 (⟨_, rfl, by rfl, by intro p hp; simp only [t36, List.mem_cons, List.not_mem_nil, or_false] at hp; rcases hp with rfl | rfl | rfl <;> exact ⟨_, rfl⟩⟩) rfl (by kernel_rfl) (by kernel_rfl) rfl ⟨rfl, ⟨rfl, ⟨rfl, trivial⟩⟩⟩ rfl
theorem ok37 : TIok Tryd.prog E 37 t37 := ti_of (z := .nilFunc) Tryd.underlying37 (trivial) rfl (by kernel_rfl) (by kernel_rfl) rfl ⟨rfl, trivial⟩ rfl
theorem ok38 : TIok Tryd.prog E 38 t38 := ti_of (z := .nilFunc) Tryd.underlying38 (trivial) rfl (by kernel_rfl) (by kernel_rfl) rfl ⟨rfl, trivial⟩ rfl
theorem ok39 : TIok Tryd.prog E 39 t39 := ti_of (z := .agg #[.slice none 0 0, .slice none 0 0, .slice none 0 0]) Tryd.underlying39 (⟨_, rfl, by rfl, by intro p hp; simp only [t39, List.mem_cons, List.not_mem_nil, or_false] at hp; rcases hp with rfl | rfl | rfl <;> exact ⟨_, rfl⟩⟩) rfl (by kernel_rfl) (by kernel_rfl) rfl ⟨rfl, ⟨rfl, ⟨rfl, trivial⟩⟩⟩ rfl
theorem ok40 : TIok Tryd.prog E 40 t40 := ti_of (z := .nilFunc) Tryd.underlying40 (trivial) rfl (by kernel_rfl) (by kernel_rfl) rfl ⟨rfl, trivial⟩ rfl
theorem ok41 : TIok Tryd.prog E 41 t41 := ti_of (z := .nilFunc) Tryd.underlying41 (trivial) rfl (by kernel_rfl) (by kernel_rfl) rfl ⟨rfl, trivial⟩ rfl
theorem ok42 : TIok Tryd.prog E 42 t42 := ti_of (z := .nilFunc) Tryd.underlying42 (trivial) rfl (by kernel_rfl) (by kernel_rfl) rfl ⟨rfl, trivial⟩ rfl
theorem ok43 : TIok Tryd.prog E 43 t43 := ti_of (z := .agg #[.slice none 0 0, .slice none 0 0, .float .f32 0, .float .f32 0, .float .f32 0]) Tryd.underlying43 (⟨_, rfl, by rfl, by intro p hp; simp only [t43, List.mem_cons, List.not_mem_nil, or_false] at hp; rcases hp with rfl | rfl | rfl | rfl | rfl <;> exact ⟨_, rfl⟩⟩) rfl (by kernel_rfl) (by kernel_rfl) rfl ⟨rfl, ⟨rfl, ⟨⟨0, rfl, cn0 _⟩, ⟨⟨0, rfl, cn0 _⟩, ⟨⟨0, rfl, cn0 _⟩, trivial⟩⟩⟩⟩⟩ rfl
theorem ok44 : TIok Tryd.prog E 44 t44 := ti_of (z := .agg #[.slice none 0 0, .slice none 0 0, .float .f32 0, .float .f32 0, .float .f32 0]) Tryd.underlying44 (⟨_, rfl, by rfl, by intro p hp; simp only [t44, List.mem_cons, List.not_mem_nil, or_false] at hp; rcases hp with rfl | rfl | rfl | rfl | rfl <;> exact ⟨_, rfl⟩⟩) rfl (by kernel_rfl) (by kernel_rfl) rfl ⟨rfl, ⟨rfl, ⟨⟨0, rfl, cn0 _⟩, ⟨⟨0, rfl, cn0 _⟩, ⟨⟨0, rfl, cn0 _⟩, trivial⟩⟩⟩⟩⟩ rfl
theorem ok45 : TIok Tryd.prog E 45 t45 := ti_of (z := .nilFunc) Tryd.underlying45 (trivial) rfl (by kernel_rfl) (by kernel_rfl) rfl ⟨rfl, trivial⟩ rfl
theorem ok46 : TIok Tryd.prog E 46 t46 := ti_of (z := .nilFunc) Tryd.underlying46 (trivial) rfl (by kernel_rfl) (by kernel_rfl) rfl ⟨rfl, trivial⟩ rfl
theorem ok47 : TIok Tryd.prog E 47 t47 := ti_of (z := .agg #[.slice none 0 0, .slice none 0 0, .float .f32 0, .float .f32 0, .float .f32 0]) Tryd.underlying47 (⟨_, rfl, by rfl, by intro p hp; simp only [t47, List.mem_cons, List.not_mem_nil, or_false] at hp; rcases hp with rfl | rfl | rfl | rfl | rfl <;> exact ⟨_, rfl⟩⟩) rfl (by kernel_rfl) (by kernel_rfl) rfl ⟨rfl, ⟨rfl, ⟨⟨0, rfl, cn0 _⟩, ⟨⟨0, rfl, cn0 _⟩, ⟨⟨0, rfl, cn0 _⟩, trivial⟩⟩⟩⟩⟩ rfl
theorem ok48 : TIok Tryd.prog E 48 t48 := ti_of (z := .nilFunc) Tryd.underlying48 (trivial) rfl (by kernel_rfl) (by kernel_rfl) rfl ⟨rfl, trivial⟩ rfl
theorem ok49 : TIok Tryd.prog E 49 t49 := ti_of (z := .nilFunc) Tryd.underlying49 (trivial) rfl (by kernel_rfl) (by kernel_rfl) rfl ⟨rfl, trivial⟩ rfl
theorem ok50 : TIok Tryd.prog E 50 t50 := ti_of (z := .nilFunc) Tryd.underlying50 (trivial) rfl (by kernel_rfl) (by kernel_rfl) rfl ⟨rfl, trivial⟩ rfl
theorem ok51 : TIok Tryd.prog E 51 t51 := ti_of (z := .slice none 0 0) Tryd.underlying51 (rfl) rfl (by kernel_rfl) (by kernel_rfl) rfl ⟨rfl, trivial⟩ rfl
theorem ok52 : TIok Tryd.prog E 52 t52 := ti_of (z := .agg #[.slice none 0 0, .slice none 0 0, .slice none 0 0, .slice none 0 0, .int .i64 0, .float .f32 0, .float .f32 0]) Tryd.underlying52 (⟨_, rfl, by rfl, by intro p hp; simp only [t52, List.mem_cons, List.not_mem_nil, or_false] at hp; rcases hp with rfl | rfl | rfl | rfl | rfl <;> exact ⟨_, rfl⟩⟩) rfl (by kernel_rfl) (by kernel_rfl) rfl ⟨rfl, ⟨rfl, ⟨rfl, ⟨rfl, ⟨rfl, ⟨⟨0, rfl, cn0 _⟩, ⟨⟨0, rfl, cn0 _⟩, trivial⟩⟩⟩⟩⟩⟩⟩ rfl
theorem ok53 : TIok Tryd.prog E 53 t53 := ti_of (z := .agg #[.slice none 0 0, .slice none 0 0, .slice none 0 0, .slice none 0 0, .int .i64 0, .float .f32 0, .float .f32 0]) Tryd.underlying53 (⟨_, rfl, by rfl, by intro p hp; simp only [t53, List.mem_cons, List.not_mem_nil, or_false] at hp; rcases hp with rfl | rfl | rfl | rfl | rfl <;> exact ⟨_, rfl⟩⟩) rfl (by kernel_rfl) (by kernel_rfl) rfl ⟨rfl, ⟨rfl, ⟨rfl, ⟨rfl, ⟨rfl, ⟨⟨0, rfl, cn0 _⟩, ⟨⟨0, rfl, cn0 _⟩, trivial⟩⟩⟩⟩⟩⟩⟩ rfl
theorem ok54 : TIok Tryd.prog E 54 t54 := ti_of (z := .nilFunc) Tryd.underlying54 (trivial) rfl (by kernel_rfl) (by kernel_rfl) rfl ⟨rfl, trivial⟩ rfl
theorem ok55 : TIok Tryd.prog E 55 t55 := ti_of (z := .nilFunc) Tryd.underlying55 (trivial) rfl (by kernel_rfl) (by kernel_rfl) rfl ⟨rfl, trivial⟩ rfl
theorem ok56 : TIok Tryd.prog E 56 t56 := ti_of (z := .slice none 0 0) Tryd.underlying56 (rfl) rfl (by kernel_rfl) (by kernel_rfl) rfl ⟨rfl, trivial⟩ rfl
theorem ok57 : TIok Tryd.prog E 57 t57 := ti_of (z := .agg #[.slice none 0 0, .slice none 0 0, .slice none 0 0, .slice none 0 0, .int .i64 0, .float .f32 0, .float .f32 0]) Tryd.underlying57 (⟨_, rfl, by rfl, by intro p hp; simp only [t57, List.mem_cons, List.not_mem_nil, or_false] at hp; rcases hp with rfl | rfl | rfl | rfl | rfl <;> exact ⟨_, rfl⟩⟩) rfl (by kernel_rfl) (by kernel_rfl) rfl ⟨rfl, ⟨rfl, ⟨rfl, ⟨rfl, ⟨rfl, ⟨⟨0, rfl, cn0 _⟩, ⟨⟨0, rfl, cn0 _⟩, trivial⟩⟩⟩⟩⟩⟩⟩ rfl
theorem ok58 : TIok Tryd.prog E 58 t58 := ti_of (z := .agg #[.slice none 0 0, .slice none 0 0, .slice none 0 0, .slice none 0 0, .int .i64 0, .float .f32 0, .float .f32 0]) Tryd.underlying58 (⟨_, rfl, by rfl, by intro p hp; simp only [t58, List.mem_cons, List.not_mem_nil, or_false] at hp; rcases hp with rfl | rfl | rfl | rfl | rfl <;> exact ⟨_, rfl⟩⟩) rfl (by kernel_rfl) (by kernel_rfl) rfl ⟨rfl, ⟨rfl, ⟨rfl, ⟨rfl, ⟨rfl, ⟨⟨0, rfl, cn0 _⟩, ⟨⟨0, rfl, cn0 _⟩, trivial⟩⟩⟩⟩⟩⟩⟩ rfl
theorem ok59 : TIok Tryd.prog E 59 t59 := ti_of (z := .nilFunc) Tryd.underlying59 (trivial) rfl (by kernel_rfl) (by kernel_rfl) rfl ⟨rfl, trivial⟩ rfl
theorem ok60 : TIok Tryd.prog E 60 t60 := ti_of (z := .nilFunc) Tryd.underlying60 (trivial) rfl (by kernel_rfl) (by kernel_rfl) rfl ⟨rfl, trivial⟩ rfl
theorem ok61 : TIok Tryd.prog E 61 t61 := ti_of (z := .nilFunc) Tryd.underlying61 (trivial) rfl (by kernel_rfl) (by kernel_rfl) rfl ⟨rfl, trivial⟩ rfl
theorem ok62 : TIok Tryd.prog E 62 t62 := ti_of (z := .nilFunc) Tryd.underlying62 (trivial) rfl (by kernel_rfl) (by kernel_rfl) rfl ⟨rfl, trivial⟩ rfl
theorem ok63 : TIok Tryd.prog E 63 t63 := ti_of (z := .pointer none) Tryd.underlying63 (trivial) rfl (by kernel_rfl) (by kernel_rfl) rfl ⟨rfl, trivial⟩ rfl
theorem ok64 : TIok Tryd.prog E 64 t64 := ti_of (z := .nilFunc) Tryd.underlying64 (trivial) rfl (by kernel_rfl) (by kernel_rfl) rfl ⟨rfl, trivial⟩ rfl
theorem ok65 : TIok Tryd.prog E 65 t65 := ti_of (z := .nilFunc) Tryd.underlying65 (trivial) rfl (by kernel_rfl) (by kernel_rfl) rfl ⟨rfl, trivial⟩ rfl
theorem ok66 : TIok Tryd.prog E 66 t66 := ti_of (z := .nilFunc) Tryd.underlying66 (trivial) rfl (by kernel_rfl) (by kernel_rfl) rfl ⟨rfl, trivial⟩ rfl
theorem ok67 : TIok Tryd.prog E 67 t67 := ti_of (z := .nilFunc) Tryd.underlying67 (trivial) rfl (by kernel_rfl) (by kernel_rfl) rfl ⟨rfl, trivial⟩ rfl
theorem ok68 : TIok Tryd.prog E 68 t68 := ti_of (z := .nilFunc) Tryd.underlying68 (trivial) rfl (by kernel_rfl) (by kernel_rfl) rfl ⟨rfl, trivial⟩ rfl
theorem ok69 : TIok Tryd.prog E 69 t69 := ti_of (z := .nilFunc) Tryd.underlying69 (trivial) rfl (by kernel_rfl) (by kernel_rfl) rfl ⟨rfl, trivial⟩ rfl
theorem ok70 : TIok Tryd.prog E 70 t70 := ti_of (z := .nilFunc) Tryd.underlying70 (trivial) rfl (by kernel_rfl) (by kernel_rfl) rfl ⟨rfl, trivial⟩ rfl
theorem ok71 : TIok Tryd.prog E 71 t71 := ti_of (z := .nilFunc) Tryd.underlying71 (trivial) rfl (by kernel_rfl) (by kernel_rfl) rfl ⟨rfl, trivial⟩ rfl
theorem ok72 : TIok Tryd.prog E 72 t72 := ti_of (z := .pointer none) Tryd.underlying72 (trivial) rfl (by kernel_rfl) (by kernel_rfl) rfl ⟨rfl, trivial⟩ rfl
theorem ok73 : TIok Tryd.prog E 73 t73 := ti_of (z := .nilFunc) Tryd.underlying73 (trivial) rfl (by kernel_rfl) (by kernel_rfl) rfl ⟨rfl, trivial⟩ rfl
theorem ok74 : TIok Tryd.prog E 74 t74 := ti_of (z := .nilFunc) Tryd.underlying74 (trivial) rfl (by kernel_rfl) (by kernel_rfl) rfl ⟨rfl, trivial⟩ rfl
theorem ok75 : TIok Tryd.prog E 75 t75 := ti_of (z := .nilFunc) Tryd.underlying75 (trivial) rfl (by kernel_rfl) (by kernel_rfl) rfl ⟨rfl, trivial⟩ rfl
theorem ok76 : TIok Tryd.prog E 76 t76 := ti_of (z := .nilFunc) Tryd.underlying76 (trivial) rfl (by kernel_rfl) (by kernel_rfl) rfl ⟨rfl, trivial⟩ rfl
theorem ok77 : TIok Tryd.prog E 77 t77 := ti_of (z := .nilFunc) Tryd.underlying77 (trivial) rfl (by kernel_rfl) (by kernel_rfl) rfl ⟨rfl, trivial⟩ rfl
theorem ok78 : TIok Tryd.prog E 78 t78 := ti_of (z := .nilFunc) Tryd.underlying78 (trivial) rfl (by kernel_rfl) (by kernel_rfl) rfl ⟨rfl, trivial⟩ rfl
theorem ok79 : TIok Tryd.prog E 79 t79 := ti_of (z := .pointer none) Tryd.underlying79 (trivial) rfl (by kernel_rfl) (by kernel_rfl) rfl ⟨rfl, trivial⟩ rfl
theorem ok80 : TIok Tryd.prog E 80 t80 := ti_of (z := .nilFunc) Tryd.underlying80 (trivial) rfl (by kernel_rfl) (by kernel_rfl) rfl ⟨rfl, trivial⟩ rfl
theorem ok81 : TIok Tryd.prog E 81 t81 := ti_of (z := .nilFunc) Tryd.underlying81 (trivial) rfl (by kernel_rfl) (by kernel_rfl) rfl ⟨rfl, trivial⟩ rfl
theorem ok82 : TIok Tryd.prog E 82 t82 := ti_of (z := .nilFunc) Tryd.underlying82 (trivial) rfl (by kernel_rfl) (by kernel_rfl) rfl ⟨rfl, trivial⟩ rfl
theorem ok83 : TIok Tryd.prog E 83 t83 := ti_of (z := .float .f64 0) Tryd.underlying83 (rfl) rfl (by kernel_rfl) (by kernel_rfl) rfl ⟨⟨0, rfl, cn0 _⟩, trivial⟩ rfl
theorem ok84 : TIok Tryd.prog E 84 t84 := ti_of (z := .nilFunc) Tryd.underlying84 (trivial) rfl (by kernel_rfl) (by kernel_rfl) rfl ⟨rfl, trivial⟩ rfl
theorem ok85 : TIok Tryd.prog E 85 t85 := ti_of (z := .nilFunc) Tryd.underlying85 (trivial) rfl (by kernel_rfl) (by kernel_rfl) rfl ⟨rfl, trivial⟩ rfl
theorem ok86 : TIok Tryd.prog E 86 t86 := ti_of (z := .pointer none) Tryd.underlying86 (trivial) rfl (by kernel_rfl) (by kernel_rfl) rfl ⟨rfl, trivial⟩ rfl
theorem ok87 : TIok Tryd.prog E 87 t87 := ti_of (z := .nilFunc) Tryd.underlying87 (trivial) rfl (by kernel_rfl) (by kernel_rfl) rfl ⟨rfl, trivial⟩ rfl
theorem ok88 : TIok Tryd.prog E 88 t88 := ti_of (z := .nilFunc) Tryd.underlying88 (trivial) rfl (by kernel_rfl) (by kernel_rfl) rfl ⟨rfl, trivial⟩ rfl
theorem ok89 : TIok Tryd.prog E 89 t89 := ti_of (z := .nilFunc) Tryd.underlying89 (trivial) rfl (by kernel_rfl) (by kernel_rfl) rfl ⟨rfl, trivial⟩ rfl
theorem ok90 : TIok Tryd.prog E 90 t90 := ti_of (z := .agg #[.float .f32 0, .float .f32 0, .float .f32 0]) Tryd.underlying90 (⟨_, rfl, by rfl, by intro p hp; simp only [t90, List.mem_cons, List.not_mem_nil, or_false] at hp; rcases hp with rfl | rfl | rfl <;> exact ⟨_, rfl⟩⟩) rfl (by kernel_rfl) (by kernel_rfl) rfl ⟨⟨0, rfl, cn0 _⟩, ⟨⟨0, rfl, cn0 _⟩, ⟨⟨0, rfl, cn0 _⟩, trivial⟩⟩⟩ rfl
theorem ok91 : TIok Tryd.prog E 91 t91 := ti_of (z := .agg #[.float .f32 0, .float .f32 0, .float .f32 0]) Tryd.underlying91 (⟨_, rfl, by rfl, by intro p hp; simp only [t91, List.mem_cons, List.not_mem_nil, or_false] at hp; rcases hp with rfl | rfl | rfl <;> exact ⟨_, rfl⟩⟩) rfl (by kernel_rfl) (by kernel_rfl) rfl ⟨⟨0, rfl, cn0 _⟩, ⟨⟨0, rfl, cn0 _⟩, ⟨⟨0, rfl, cn0 _⟩, trivial⟩⟩⟩ rfl
theorem ok92 : TIok Tryd.prog E 92 t92 := ti_of (z := .nilFunc) Tryd.underlying92 (trivial) rfl (by kernel_rfl) (by kernel_rfl) rfl ⟨rfl, trivial⟩ rfl
theorem ok93 : TIok Tryd.prog E 93 t93 := ti_of (z := .nilFunc) Tryd.underlying93 (trivial) rfl (by kernel_rfl) (by kernel_rfl) rfl ⟨rfl, trivial⟩ rfl
theorem ok94 : TIok Tryd.prog E 94 t94 := ti_of (z := .pointer none) Tryd.underlying94 (trivial) rfl (by kernel_rfl) (by kernel_rfl) rfl ⟨rfl, trivial⟩ rfl
theorem ok95 : TIok Tryd.prog E 95 t95 := ti_of (z := .nilFunc) Tryd.underlying95 (trivial) rfl (by kernel_rfl) (by kernel_rfl) rfl ⟨rfl, trivial⟩ rfl
theorem ok96 : TIok Tryd.prog E 96 t96 := ti_of (z := .nilFunc) Tryd.underlying96 (trivial) rfl (by kernel_rfl) (by kernel_rfl) rfl ⟨rfl, trivial⟩ rfl
theorem ok97 : TIok Tryd.prog E 97 t97 := ti_of (z := .nilFunc) Tryd.underlying97 (trivial) rfl (by kernel_rfl) (by kernel_rfl) rfl ⟨rfl, trivial⟩ rfl
theorem ok98 : TIok Tryd.prog E 98 t98 := ti_of (z := .nilFunc) Tryd.underlying98 (trivial) rfl (by kernel_rfl) (by kernel_rfl) rfl ⟨rfl, trivial⟩ rfl
theorem ok99 : TIok Tryd.prog E 99 t99 := ti_of (z := .nilFunc) Tryd.underlying99 (trivial) rfl (by kernel_rfl) (by kernel_rfl) rfl ⟨rfl, trivial⟩ rfl
theorem ok100 : TIok Tryd.prog E 100 t100 := ti_of (z := .nilFunc) Tryd.underlying100 (trivial) rfl (by kernel_rfl) (by kernel_rfl) rfl ⟨rfl, trivial⟩ rfl
theorem ok101 : TIok Tryd.prog E 101 t101 := ti_of (z := .nilFunc) Tryd.underlying101 (trivial) rfl (by kernel_rfl) (by kernel_rfl) rfl ⟨rfl, trivial⟩ rfl
theorem ok102 : TIok Tryd.prog E 102 t102 := ti_of (z := .nilFunc) Tryd.underlying102 (trivial) rfl (by kernel_rfl) (by kernel_rfl) rfl ⟨rfl, trivial⟩ rfl
theorem ok103 : TIok Tryd.prog E 103 t103 := ti_of (z := .nilFunc) Tryd.underlying103 (trivial) rfl (by kernel_rfl) (by kernel_rfl) rfl ⟨rfl, trivial⟩ rfl
theorem ok104 : TIok Tryd.prog E 104 t104 := ti_of (z := .nilFunc) Tryd.underlying104 (trivial) rfl (by kernel_rfl) (by kernel_rfl) rfl ⟨rfl, trivial⟩ rfl
theorem ok105 : TIok Tryd.prog E 105 t105 := ti_of (z := .nilFunc) Tryd.underlying105 (trivial) rfl (by kernel_rfl) (by kernel_rfl) rfl ⟨rfl, trivial⟩ rfl
theorem ok106 : TIok Tryd.prog E 106 t106 := ti_of (z := .pointer none) Tryd.underlying106 (trivial) rfl (by kernel_rfl) (by kernel_rfl) rfl ⟨rfl, trivial⟩ rfl
theorem ok107 : TIok Tryd.prog E 107 t107 := ti_of (z := .nilFunc) Tryd.underlying107 (trivial) rfl (by kernel_rfl) (by kernel_rfl) rfl ⟨rfl, trivial⟩ rfl
theorem ok108 : TIok Tryd.prog E 108 t108 := ti_of (z := .agg #[.float .f32 0, .float .f32 0, .float .f32 0]) Tryd.underlying108 (⟨_, rfl, by rfl, by intro p hp; simp only [t108, List.mem_cons, List.not_mem_nil, or_false] at hp; rcases hp with rfl | rfl | rfl <;> exact ⟨_, rfl⟩⟩) rfl (by kernel_rfl) (by kernel_rfl) rfl ⟨⟨0, rfl, cn0 _⟩, ⟨⟨0, rfl, cn0 _⟩, ⟨⟨0, rfl, cn0 _⟩, trivial⟩⟩⟩ rfl
theorem ok109 : TIok Tryd.prog E 109 t109 := ti_of (z := .nilFunc) Tryd.underlying109 (trivial) rfl (by kernel_rfl) (by kernel_rfl) rfl ⟨rfl, trivial⟩ rfl
theorem ok110 : TIok Tryd.prog E 110 t110 := ti_of (z := .nilFunc) Tryd.underlying110 (trivial) rfl (by kernel_rfl) (by kernel_rfl) rfl ⟨rfl, trivial⟩ rfl
theorem ok111 : TIok Tryd.prog E 111 t111 := ti_of (z := .slice none 0 0) Tryd.underlying111 (rfl) rfl (by kernel_rfl) (by kernel_rfl) rfl ⟨rfl, trivial⟩ rfl
theorem ok112 : TIok Tryd.prog E 112 t112 := ti_of (z := .slice none 0 0) Tryd.underlying112 (rfl) rfl (by kernel_rfl) (by kernel_rfl) rfl ⟨rfl, trivial⟩ rfl
theorem ok113 : TIok Tryd.prog E 113 t113 := ti_of (z := .nilFunc) Tryd.underlying113 (trivial) rfl (by kernel_rfl) (by kernel_rfl) rfl ⟨rfl, trivial⟩ rfl
theorem ok114 : TIok Tryd.prog E 114 t114 := ti_of (z := .nilFunc) Tryd.underlying114 (trivial) rfl (by kernel_rfl) (by kernel_rfl) rfl ⟨rfl, trivial⟩ rfl
theorem ok115 : TIok Tryd.prog E 115 t115 := ti_of (z := .slice none 0 0) Tryd.underlying115 (rfl) rfl (by kernel_rfl) (by kernel_rfl) rfl ⟨rfl, trivial⟩ rfl
theorem ok116 : TIok Tryd.prog E 116 t116 := ti_of (z := .nilFunc) Tryd.underlying116 (trivial) rfl (by kernel_rfl) (by kernel_rfl) rfl ⟨rfl, trivial⟩ rfl
theorem ok117 : TIok Tryd.prog E 117 t117 := ti_of (z := .nilFunc) Tryd.underlying117 (trivial) rfl (by kernel_rfl) (by kernel_rfl) rfl ⟨rfl, trivial⟩ rfl
theorem ok118 : TIok Tryd.prog E 118 t118 := ti_of (z := .int .u64 0) Tryd.underlying118 (rfl) rfl (by kernel_rfl) (by kernel_rfl) rfl ⟨rfl, trivial⟩ rfl
theorem ok119 : TIok Tryd.prog E 119 t119 := ti_of (z := .nilFunc) Tryd.underlying119 (trivial) rfl (by kernel_rfl) (by kernel_rfl) rfl ⟨rfl, trivial⟩ rfl
theorem ok120 : TIok Tryd.prog E 120 t120 := ti_of (z := .nilFunc) Tryd.underlying120 (trivial) rfl (by kernel_rfl) (by kernel_rfl) rfl ⟨rfl, trivial⟩ rfl
theorem ok121 : TIok Tryd.prog E 121 t121 := ti_of (z := .nilFunc) Tryd.underlying121 (trivial) rfl (by kernel_rfl) (by kernel_rfl) rfl ⟨rfl, trivial⟩ rfl
theorem ok122 : TIok Tryd.prog E 122 t122 := ti_of (z := .agg #[.int .u8 0, .int .u8 0, .int .u8 0, .int .u8 0, .int .u8 0, .int .u8 0, .int .u8 0, .int .u8 0, .int .u8 0, .int .u8 0, .int .u8 0, .int .u8 0, .int .u8 0, .int .u8 0, .int .u8 0, .int .u8 0, .int .u8 0, .int .u8 0, .int .u8 0, .int .u8 0, .int .u8 0, .int .u8 0, .int .u8 0, .int .u8 0]) Tryd.underlying122 (rfl) rfl (by kernel_rfl) (by kernel_rfl) rfl ⟨rfl, ⟨rfl, ⟨rfl, ⟨rfl, ⟨rfl, ⟨rfl, ⟨rfl, ⟨rfl, ⟨rfl, ⟨rfl, ⟨rfl, ⟨rfl, ⟨rfl, ⟨rfl, ⟨rfl, ⟨rfl, ⟨rfl, ⟨rfl, ⟨rfl, ⟨rfl, ⟨rfl, ⟨rfl, ⟨rfl, ⟨rfl, trivial⟩⟩⟩⟩⟩⟩⟩⟩⟩⟩⟩⟩⟩⟩⟩⟩⟩⟩⟩⟩⟩⟩⟩⟩ rfl
theorem ok123 : TIok Tryd.prog E 123 t123 := ti_of (z := .int .u64 0) Tryd.underlying123 (rfl) rfl (by kernel_rfl) (by kernel_rfl) rfl ⟨rfl, trivial⟩ rfl
theorem ok124 : TIok Tryd.prog E 124 t124 := ti_of (z := .nilFunc) Tryd.underlying124 (trivial) rfl (by kernel_rfl) (by kernel_rfl) rfl ⟨rfl, trivial⟩ rfl
theorem ok125 : TIok Tryd.prog E 125 t125 := ti_of (z := .nilFunc) Tryd.underlying125 (trivial) rfl (by kernel_rfl) (by kernel_rfl) rfl ⟨rfl, trivial⟩ rfl
theorem ok127 : TIok Tryd.prog E 127 t127 := ti_of (z := .nilFunc) Tryd.underlying127 (trivial) rfl (by kernel_rfl) (by kernel_rfl) rfl ⟨rfl, trivial⟩ rfl
theorem ok128 : TIok Tryd.prog E 128 t128 := ti_of (z := .int .u32 0) Tryd.underlying128 (rfl) rfl (by kernel_rfl) (by kernel_rfl) rfl ⟨rfl, trivial⟩ rfl
theorem ok129 : TIok Tryd.prog E 129 t129 := ti_of (z := .nilFunc) Tryd.underlying129 (trivial) rfl (by kernel_rfl) (by kernel_rfl) rfl ⟨rfl, trivial⟩ rfl
theorem ok131 : TIok Tryd.prog E 131 t131 := ti_of (z := .nilFunc) Tryd.underlying131 (trivial) rfl (by kernel_rfl) (by kernel_rfl) rfl ⟨rfl, trivial⟩ rfl
theorem ok132 : TIok Tryd.prog E 132 t132 := ti_of (z := .nilFunc) Tryd.underlying132 (trivial) rfl (by kernel_rfl) (by kernel_rfl) rfl ⟨rfl, trivial⟩ rfl
theorem ok133 : TIok Tryd.prog E 133 t133 := ti_of (z := .pointer none) Tryd.underlying133 (trivial) rfl (by kernel_rfl) (by kernel_rfl) rfl ⟨rfl, trivial⟩ rfl
theorem ok134 : TIok Tryd.prog E 134 t134 := ti_of (z := .agg #[.pointer none, .slice none 0 0]) Tryd.underlying134 (⟨_, rfl, by rfl, by intro p hp; simp only [t134, List.mem_cons, List.not_mem_nil, or_false] at hp; rcases hp with rfl | rfl <;> exact ⟨_, rfl⟩⟩) rfl (by kernel_rfl) (by kernel_rfl) rfl ⟨rfl, ⟨rfl, trivial⟩⟩ rfl
theorem ok135 : TIok Tryd.prog E 135 t135 := ti_of (z := .agg #[.pointer none, .slice none 0 0]) Tryd.underlying135 (⟨_, rfl, by rfl, by intro p hp; simp only [t135, List.mem_cons, List.not_mem_nil, or_false] at hp; rcases hp with rfl | rfl <;> exact ⟨_, rfl⟩⟩) rfl (by kernel_rfl) (by kernel_rfl) rfl ⟨rfl, ⟨rfl, trivial⟩⟩ rfl
theorem ok136 : TIok Tryd.prog E 136 t136 := ti_of (z := .nilFunc) Tryd.underlying136 (trivial) rfl (by kernel_rfl) (by kernel_rfl) rfl ⟨rfl, trivial⟩ rfl
theorem ok137 : TIok Tryd.prog E 137 t137 := ti_of (z := .nilIface) Tryd.underlying137 (⟨_, rfl⟩) rfl (by kernel_rfl) (by kernel_rfl) rfl ⟨rfl, trivial⟩ rfl
theorem ok138 : TIok Tryd.prog E 138 t138 := ti_of (z := .nilIface) Tryd.underlying138 (⟨_, rfl⟩) rfl (by kernel_rfl) (by kernel_rfl) rfl ⟨rfl, trivial⟩ rfl
theorem ok140 : TIok Tryd.prog E 140 t140 := ti_of (z := .nilFunc) Tryd.underlying140 (trivial) rfl (by kernel_rfl) (by kernel_rfl) rfl ⟨rfl, trivial⟩ rfl
theorem ok141 : TIok Tryd.prog E 141 t141 := ti_of (z := .nilFunc) Tryd.underlying141 (trivial) rfl (by kernel_rfl) (by kernel_rfl) rfl ⟨rfl, trivial⟩ rfl
theorem ok142 : TIok Tryd.prog E 142 t142 := ti_of (z := .nilFunc) Tryd.underlying142 (trivial) rfl (by kernel_rfl) (by kernel_rfl) rfl ⟨rfl, trivial⟩ rfl
theorem ok143 : TIok Tryd.prog E 143 t143 := ti_of (z := .nilFunc) Tryd.underlying143 (trivial) rfl (by kernel_rfl) (by kernel_rfl) rfl ⟨rfl, trivial⟩ rfl
theorem ok144 : TIok Tryd.prog E 144 t144 := ti_of (z := .nilFunc) Tryd.underlying144 (trivial) rfl (by kernel_rfl) (by kernel_rfl) rfl ⟨rfl, trivial⟩ rfl
theorem ok145 : TIok Tryd.prog E 145 t145 := ti_of (z := .agg #[.int .u64 0, .int .u64 0, .int .u64 0, .int .u64 0, .int .u64 0, .int .u64 0, .int .u64 0, .int .u64 0, .int .u64 0, .int .u64 0, .int .u64 0, .int .u64 0, .int .u64 0, .int .u64 0, .int .u64 0, .int .u64 0, .int .u64 0, .int .u64 0, .int .u64 0, .int .u64 0]) Tryd.underlying145 (rfl) rfl (by kernel_rfl) (by kernel_rfl) rfl ⟨rfl, ⟨rfl, ⟨rfl, ⟨rfl, ⟨rfl, ⟨rfl, ⟨rfl, ⟨rfl, ⟨rfl, ⟨rfl, ⟨rfl, ⟨rfl, ⟨rfl, ⟨rfl, ⟨rfl, ⟨rfl, ⟨rfl, ⟨rfl, ⟨rfl, ⟨rfl, trivial⟩⟩⟩⟩⟩⟩⟩⟩⟩⟩⟩⟩⟩⟩⟩⟩⟩⟩⟩⟩ rfl
theorem ok146 : TIok Tryd.prog E 146 t146 := ti_of (z := .agg (List.replicate 65 (.int .u8 0 : Value)).toArray) Tryd.underlying146 (rfl) rfl (by kernel_rfl) (by kernel_rfl) rfl (RdL_rep (g := ⟨fun _ => none, []⟩) (v := .int .u8 0) (x := .int .u8 0) rfl 65) rfl
theorem ok147 : TIok Tryd.prog E 147 t147 := ti_of (z := .nilFunc) Tryd.underlying147 (trivial) rfl (by kernel_rfl) (by kernel_rfl) rfl ⟨rfl, trivial⟩ rfl
theorem ok148 : TIok Tryd.prog E 148 t148 := ti_of (z := .nilFunc) Tryd.underlying148 (trivial) rfl (by kernel_rfl) (by kernel_rfl) rfl ⟨rfl, trivial⟩ rfl
theorem ok150 : TIok Tryd.prog E 150 t150 := ti_of (z := .nilFunc) Tryd.underlying150 (trivial) rfl (by kernel_rfl) (by kernel_rfl) rfl ⟨rfl, trivial⟩ rfl
theorem ok152 : TIok Tryd.prog E 152 t152 := ti_of (z := .nilFunc) Tryd.underlying152 (trivial) rfl (by kernel_rfl) (by kernel_rfl) rfl ⟨rfl, trivial⟩ rfl
theorem ok153 : TIok Tryd.prog E 153 t153 := ti_of (z := .pointer none) Tryd.underlying153 (trivial) rfl (by kernel_rfl) (by kernel_rfl) rfl ⟨rfl, trivial⟩ rfl
theorem ok154 : TIok Tryd.prog E 154 t154 := ti_of (z := .nilFunc) Tryd.underlying154 (trivial) rfl (by kernel_rfl) (by kernel_rfl) rfl ⟨rfl, trivial⟩ rfl
theorem ok156 : TIok Tryd.prog E 156 t156 := ti_of (z := .nilFunc) Tryd.underlying156 (trivial) rfl (by kernel_rfl) (by kernel_rfl) rfl ⟨rfl, trivial⟩ rfl
theorem ok157 : TIok Tryd.prog E 157 t157 := ti_of (z := .nilFunc) Tryd.underlying157 (trivial) rfl (by kernel_rfl) (by kernel_rfl) rfl ⟨rfl, trivial⟩ rfl
theorem ok158 : TIok Tryd.prog E 158 t158 := ti_of (z := .agg #[.int .u8 0, .int .u8 0, .int .u8 0, .int .u8 0, .int .u8 0, .int .u8 0, .int .u8 0, .int .u8 0, .int .u8 0, .int .u8 0, .int .u8 0, .int .u8 0, .int .u8 0, .int .u8 0, .int .u8 0, .int .u8 0, .int .u8 0, .int .u8 0, .int .u8 0, .int .u8 0, .int .u8 0, .int .u8 0, .int .u8 0, .int .u8 0, .int .u8 0, .int .u8 0, .int .u8 0, .int .u8 0, .int .u8 0, .int .u8 0, .int .u8 0, .int .u8 0]) Tryd.underlying158 (rfl) rfl (by kernel_rfl) (by kernel_rfl) rfl ⟨rfl, ⟨rfl, ⟨rfl, ⟨rfl, ⟨rfl, ⟨rfl, ⟨rfl, ⟨rfl, ⟨rfl, ⟨rfl, ⟨rfl, ⟨rfl, ⟨rfl, ⟨rfl, ⟨rfl, ⟨rfl, ⟨rfl, ⟨rfl, ⟨rfl, ⟨rfl, ⟨rfl, ⟨rfl, ⟨rfl, ⟨rfl, ⟨rfl, ⟨rfl, ⟨rfl, ⟨rfl, ⟨rfl, ⟨rfl, ⟨rfl, ⟨rfl, trivial⟩⟩⟩⟩⟩⟩⟩⟩⟩⟩⟩⟩⟩⟩⟩⟩⟩⟩⟩⟩⟩⟩⟩⟩⟩⟩⟩⟩⟩⟩⟩⟩ rfl
theorem ok159 : TIok Tryd.prog E 159 t159 := ti_of (z := .agg (List.replicate 64 (.int .u8 0 : Value)).toArray) Tryd.underlying159 (rfl) rfl (by kernel_rfl) (by kernel_rfl) rfl (RdL_rep (g := ⟨fun _ => none, []⟩) (v := .int .u8 0) (x := .int .u8 0) rfl 64) rfl
theorem ok160 : TIok Tryd.prog E 160 t160 := ti_of (z := .agg #[.pointer none, .pointer none, .pointer none, .string ⟨#[]⟩]) Tryd.underlying160 (⟨_, rfl, by rfl, by intro p hp; simp only [t160, List.mem_cons, List.not_mem_nil, or_false] at hp; rcases hp with rfl | rfl | rfl | rfl <;> exact ⟨_, rfl⟩⟩) rfl (by kernel_rfl) (by kernel_rfl) rfl ⟨rfl, ⟨rfl, ⟨rfl, ⟨rfl, trivial⟩⟩⟩⟩ rfl
theorem ok161 : TIok Tryd.prog E 161 t161 := ti_of (z := .agg #[.pointer none, .pointer none, .pointer none, .string ⟨#[]⟩]) Tryd.underlying161 (⟨_, rfl, by rfl, by intro p hp; simp only [t161, List.mem_cons, List.not_mem_nil, or_false] at hp; rcases hp with rfl | rfl | rfl | rfl <;> exact ⟨_, rfl⟩⟩) rfl (by kernel_rfl) (by kernel_rfl) rfl ⟨rfl, ⟨rfl, ⟨rfl, ⟨rfl, trivial⟩⟩⟩⟩ rfl
theorem ok162 : TIok Tryd.prog E 162 t162 := ti_of0 Tryd.underlying162 (rfl) rfl (by kernel_rfl) rfl
theorem ok163 : TIok Tryd.prog E 163 t163 := ti_of0 Tryd.underlying163 (⟨_, rfl, by rfl, by intro p hp; simp only [t163, List.mem_cons, List.not_mem_nil, or_false] at hp; rcases hp with rfl <;> exact ⟨_, rfl⟩⟩) rfl (by kernel_rfl) rfl
theorem ok164 : TIok Tryd.prog E 164 t164 := ti_of0 Tryd.underlying164 (⟨_, rfl, by rfl, by intro p hp; simp only [t164, List.mem_cons, List.not_mem_nil, or_false] at hp; rcases hp with rfl <;> exact ⟨_, rfl⟩⟩) rfl (by kernel_rfl) rfl
theorem ok165 : TIok Tryd.prog E 165 t165 := ti_of (z := .int .u8 0) Tryd.underlying165 (rfl) rfl (by kernel_rfl) (by kernel_rfl) rfl ⟨rfl, trivial⟩ rfl
theorem ok166 : TIok Tryd.prog E 166 t166 := ti_of (z := .int .u8 0) Tryd.underlying166 (rfl) rfl (by kernel_rfl) (by kernel_rfl) rfl ⟨rfl, trivial⟩ rfl
theorem ok167 : TIok Tryd.prog E 167 t167 := ti_of (z := .nilFunc) Tryd.underlying167 (trivial) rfl (by kernel_rfl) (by kernel_rfl) rfl ⟨rfl, trivial⟩ rfl
theorem ok168 : TIok Tryd.prog E 168 t168 := ti_of (z := .int .i32 0) Tryd.underlying168 (rfl) rfl (by kernel_rfl) (by kernel_rfl) rfl ⟨rfl, trivial⟩ rfl
theorem ok169 : TIok Tryd.prog E 169 t169 := ti_of (z := .int .i32 0) Tryd.underlying169 (rfl) rfl (by kernel_rfl) (by kernel_rfl) rfl ⟨rfl, trivial⟩ rfl
theorem ok170 : TIok Tryd.prog E 170 t170 := ti_of (z := .agg #[.int .u64 0, .int .u64 0, .int .u32 0, .int .u8 0, .int .u8 0, .int .u8 0, .int .u8 0, .nilFunc, .pointer none, .int .i32 0, .int .i32 0]) Tryd.underlying170 (⟨_, rfl, by rfl, by intro p hp; simp only [t170, List.mem_cons, List.not_mem_nil, or_false] at hp; rcases hp with rfl | rfl | rfl | rfl | rfl | rfl | rfl | rfl | rfl | rfl | rfl <;> exact ⟨_, rfl⟩⟩) rfl (by kernel_rfl) (by kernel_rfl) rfl ⟨rfl, ⟨rfl, ⟨rfl, ⟨rfl, ⟨rfl, ⟨rfl, ⟨rfl, ⟨rfl, ⟨rfl, ⟨rfl, ⟨rfl, trivial⟩⟩⟩⟩⟩⟩⟩⟩⟩⟩⟩ rfl
theorem ok171 : TIok Tryd.prog E 171 t171 := ti_of (z := .agg #[.int .u64 0, .int .u64 0, .int .u32 0, .int .u8 0, .int .u8 0, .int .u8 0, .int .u8 0, .nilFunc, .pointer none, .int .i32 0, .int .i32 0]) Tryd.underlying171 (⟨_, rfl, by rfl, by intro p hp; simp only [t171, List.mem_cons, List.not_mem_nil, or_false] at hp; rcases hp with rfl | rfl | rfl | rfl | rfl | rfl | rfl | rfl | rfl | rfl | rfl <;> exact ⟨_, rfl⟩⟩) rfl (by kernel_rfl) (by kernel_rfl) rfl ⟨rfl, ⟨rfl, ⟨rfl, ⟨rfl, ⟨rfl, ⟨rfl, ⟨rfl, ⟨rfl, ⟨rfl, ⟨rfl, ⟨rfl, trivial⟩⟩⟩⟩⟩⟩⟩⟩⟩⟩⟩ rfl
def All {α : Type} (p : Nat → α → Prop) : List (Nat × α) → Prop
  | [] => True
  | (i, x) :: r => p i x ∧ All p r
theorem All.of {α : Type} {p : Nat → α → Prop} : ∀ {l : List (Nat × α)}, All p l → ∀ i x, (i, x) ∈ l → p i x
  | [], _, i, x, h => by cases h
  | (j, y) :: r, h, i, x, hm => by
    rcases List.mem_cons.1 hm with e | hm
    · cases e; exact h.1
    · exact h.2.of i x hm
theorem allT : All (fun t ti => TIok Tryd.prog E t ti) tab := ⟨ok1, ⟨ok2, ⟨ok3, ⟨ok4, ⟨ok5, ⟨ok6, ⟨ok7, ⟨ok8, ⟨ok9, ⟨ok10, ⟨ok11, ⟨ok12, ⟨ok13, ⟨ok14, ⟨ok15, ⟨ok16, ⟨ok17, ⟨ok18, ⟨ok19, ⟨ok20, ⟨ok21, ⟨ok22, ⟨ok23, ⟨ok24, ⟨ok25, ⟨ok26, ⟨ok28, ⟨ok29, ⟨ok30, ⟨ok31, ⟨ok32, ⟨ok33, ⟨ok34, ⟨ok35, ⟨ok36, ⟨ok37, ⟨ok38, ⟨ok39, ⟨ok40, ⟨ok41, ⟨ok42, ⟨ok43, ⟨ok44, ⟨ok45, ⟨ok46, ⟨ok47, ⟨ok48, ⟨ok49, ⟨ok50, ⟨ok51, ⟨ok52, ⟨ok53, ⟨ok54, ⟨ok55, ⟨ok56, ⟨ok57, ⟨ok58, ⟨ok59, ⟨ok60, ⟨ok61, ⟨ok62, ⟨ok63, ⟨ok64, ⟨ok65, ⟨ok66, ⟨ok67, ⟨ok68, ⟨ok69, ⟨ok70, ⟨ok71, ⟨ok72, ⟨ok73, ⟨ok74, ⟨ok75, ⟨ok76, ⟨ok77, ⟨ok78, ⟨ok79, ⟨ok80, ⟨ok81, ⟨ok82, ⟨ok83, ⟨ok84, ⟨ok85, ⟨ok86, ⟨ok87, ⟨ok88, ⟨ok89, ⟨ok90, ⟨ok91, ⟨ok92, ⟨ok93, ⟨ok94, ⟨ok95, ⟨ok96, ⟨ok97, ⟨ok98, ⟨ok99, ⟨ok100, ⟨ok101, ⟨ok102, ⟨ok103, ⟨ok104, ⟨ok105, ⟨ok106, ⟨ok107, ⟨ok108, ⟨ok109, ⟨ok110, ⟨ok111, ⟨ok112, ⟨ok113, ⟨ok114, ⟨ok115, ⟨ok116, ⟨ok117, ⟨ok118, ⟨ok119, ⟨ok120, ⟨ok121, ⟨ok122, ⟨ok123, ⟨ok124, ⟨ok125, ⟨ok127, ⟨ok128, ⟨ok129, ⟨ok131, ⟨ok132, ⟨ok133, ⟨ok134, ⟨ok135, ⟨ok136, ⟨ok137, ⟨ok138, ⟨ok140, ⟨ok141, ⟨ok142, ⟨ok143, ⟨ok144, ⟨ok145, ⟨ok146, ⟨ok147, ⟨ok148, ⟨ok150, ⟨ok152, ⟨ok153, ⟨ok154, ⟨ok156, ⟨ok157, ⟨ok158, ⟨ok159, ⟨ok160, ⟨ok161, ⟨ok162, ⟨ok163, ⟨ok164, ⟨ok165, ⟨ok166, ⟨ok167, ⟨ok168, ⟨ok169, ⟨ok170, ⟨ok171, trivial⟩⟩⟩⟩⟩⟩⟩⟩⟩⟩⟩⟩⟩⟩⟩⟩⟩⟩⟩⟩⟩⟩⟩⟩⟩⟩⟩⟩⟩⟩⟩⟩⟩⟩⟩⟩⟩⟩⟩⟩⟩⟩⟩⟩⟩⟩⟩⟩⟩⟩⟩⟩⟩⟩⟩⟩⟩⟩⟩⟩⟩⟩⟩⟩⟩⟩⟩⟩⟩⟩⟩⟩⟩⟩⟩⟩⟩⟩⟩⟩⟩⟩⟩⟩⟩⟩⟩⟩⟩⟩⟩⟩⟩⟩⟩⟩⟩⟩⟩⟩⟩⟩⟩⟩⟩⟩⟩⟩⟩⟩⟩⟩⟩⟩⟩⟩⟩⟩⟩⟩⟩⟩⟩⟩⟩⟩⟩⟩⟩⟩⟩⟩⟩⟩⟩⟩⟩⟩⟩⟩⟩⟩⟩⟩⟩⟩⟩⟩⟩⟩⟩⟩⟩⟩⟩⟩⟩⟩⟩⟩⟩⟩⟩⟩
theorem call_body {f : Nat} {fn : Func} (hf : Tryd.prog.funcs[f]? = some fn) (hb : fn.body.isNone = false) (hn : (fn.name == "runtime.NumGoroutine") = false) (args : Array Value) (w : World) : (callFunc f args).run Tryd.prog w = .ok (.enter f args) w := by
  have hn' : ¬ fn.name = "runtime.NumGoroutine" := by simpa using hn
  cases hb' : fn.body with
  | none => rw [hb'] at hb; cases hb
  | some b => simp [callFunc, hf, hb', hn']
def Fok (f : Nat) : FK → Prop
  | .body => ∀ args w, (callFunc f args).run Tryd.prog w = .ok (.enter f args) w
  | .f32bits => ∀ b w, (callFunc f #[.float .f32 b]).run Tryd.prog w = .ok (.value (.int .u32 b)) w
  | .f32from => ∀ n w, (callFunc f #[.int .u32 n]).run Tryd.prog w = .ok (.value (.float .f32 n.toNat)) w
  | .f64bits => ∀ b w, (callFunc f #[.float .f64 b]).run Tryd.prog w = .ok (.value (.int .u64 b)) w
  | .f64from => ∀ n w, (callFunc f #[.int .u64 n]).run Tryd.prog w = .ok (.value (.float .f64 n.toNat)) w
  | _ => True
theorem fk3 : Fok 3 .body := call_body Tryd.func3 rfl rfl
theorem fk4 : Fok 4 .body := call_body Tryd.func4 rfl rfl
theorem fk5 : Fok 5 .body := call_body Tryd.func5 rfl rfl
theorem fk6 : Fok 6 .body := call_body Tryd.func6 rfl rfl
theorem fk7 : Fok 7 .body := call_body Tryd.func7 rfl rfl
theorem fk8 : Fok 8 .body := call_body Tryd.func8 rfl rfl
theorem fk9 : Fok 9 .body := call_body Tryd.func9 rfl rfl
theorem fk10 : Fok 10 .body := call_body Tryd.func10 rfl rfl
theorem fk11 : Fok 11 .body := call_body Tryd.func11 rfl rfl
theorem fk12 : Fok 12 .body := call_body Tryd.func12 rfl rfl
theorem fk13 : Fok 13 .body := call_body Tryd.func13 rfl rfl
theorem fk14 : Fok 14 .body := call_body Tryd.func14 rfl rfl
theorem fk15 : Fok 15 .body := call_body Tryd.func15 rfl rfl
theorem fk16 : Fok 16 .body := call_body Tryd.func16 rfl rfl
theorem fk17 : Fok 17 .body := call_body Tryd.func17 rfl rfl
theorem fk18 : Fok 18 .body := call_body Tryd.func18 rfl rfl
theorem fk19 : Fok 19 .body := call_body Tryd.func19 rfl rfl
theorem fk20 : Fok 20 .body := call_body Tryd.func20 rfl rfl
theorem fk21 : Fok 21 .body := call_body Tryd.func21 rfl rfl
theorem fk22 : Fok 22 .body := call_body Tryd.func22 rfl rfl
theorem fk23 : Fok 23 .body := call_body Tryd.func23 rfl rfl
theorem fk24 : Fok 24 .body := call_body Tryd.func24 rfl rfl
theorem fk25 : Fok 25 .body := call_body Tryd.func25 rfl rfl
theorem fk26 : Fok 26 .body := call_body Tryd.func26 rfl rfl
theorem fk27 : Fok 27 .body := call_body Tryd.func27 rfl rfl
theorem fk28 : Fok 28 .body := call_body Tryd.func28 rfl rfl
theorem fk29 : Fok 29 .body := call_body Tryd.func29 rfl rfl
theorem fk30 : Fok 30 .body := call_body Tryd.func30 rfl rfl
theorem fk31 : Fok 31 .body := call_body Tryd.func31 rfl rfl
theorem fk32 : Fok 32 .body := call_body Tryd.func32 rfl rfl
theorem fk33 : Fok 33 .body := call_body Tryd.func33 rfl rfl
theorem fk34 : Fok 34 .body := call_body Tryd.func34 rfl rfl
theorem fk35 : Fok 35 .body := call_body Tryd.func35 rfl rfl
theorem fk36 : Fok 36 .body := call_body Tryd.func36 rfl rfl
theorem fk37 : Fok 37 .body := call_body Tryd.func37 rfl rfl
theorem fk38 : Fok 38 .body := call_body Tryd.func38 rfl rfl
theorem fk39 : Fok 39 .body := call_body Tryd.func39 rfl rfl
theorem fk40 : Fok 40 .body := call_body Tryd.func40 rfl rfl
theorem fk41 : Fok 41 .body := call_body Tryd.func41 rfl rfl
theorem fk42 : Fok 42 .body := call_body Tryd.func42 rfl rfl
theorem fk43 : Fok 43 .body := call_body Tryd.func43 rfl rfl
theorem fk44 : Fok 44 .body := call_body Tryd.func44 rfl rfl
theorem fk45 : Fok 45 .body := call_body Tryd.func45 rfl rfl
theorem fk46 : Fok 46 .body := call_body Tryd.func46 rfl rfl
theorem fk47 : Fok 47 .body := call_body Tryd.func47 rfl rfl
theorem fk48 : Fok 48 .body := call_body Tryd.func48 rfl rfl
theorem fk49 : Fok 49 .body := call_body Tryd.func49 rfl rfl
theorem fk50 : Fok 50 .body := call_body Tryd.func50 rfl rfl
theorem fk51 : Fok 51 .body := call_body Tryd.func51 rfl rfl
theorem fk52 : Fok 52 .body := call_body Tryd.func52 rfl rfl
theorem fk53 : Fok 53 .body := call_body Tryd.func53 rfl rfl
theorem fk54 : Fok 54 .body := call_body Tryd.func54 rfl rfl
theorem fk55 : Fok 55 .body := call_body Tryd.func55 rfl rfl
theorem fk56 : Fok 56 .body := call_body Tryd.func56 rfl rfl
theorem fk57 : Fok 57 .body := call_body Tryd.func57 rfl rfl
theorem fk58 : Fok 58 .body := call_body Tryd.func58 rfl rfl
theorem fk59 : Fok 59 .body := call_body Tryd.func59 rfl rfl
theorem fk60 : Fok 60 .body := call_body Tryd.func60 rfl rfl
theorem fk61 : Fok 61 .body := call_body Tryd.func61 rfl rfl
theorem fk62 : Fok 62 .body := call_body Tryd.func62 rfl rfl
theorem fk63 : Fok 63 .body := call_body Tryd.func63 rfl rfl
theorem fk64 : Fok 64 .body := call_body Tryd.func64 rfl rfl
theorem fk65 : Fok 65 .body := call_body Tryd.func65 rfl rfl
theorem fk66 : Fok 66 .body := call_body Tryd.func66 rfl rfl
theorem fk67 : Fok 67 .body := call_body Tryd.func67 rfl rfl
theorem fk68 : Fok 68 .body := call_body Tryd.func68 rfl rfl
theorem fk69 : Fok 69 .body := call_body Tryd.func69 rfl rfl
theorem fk70 : Fok 70 .body := call_body Tryd.func70 rfl rfl
theorem fk71 : Fok 71 .body := call_body Tryd.func71 rfl rfl
theorem fk72 : Fok 72 .body := call_body Tryd.func72 rfl rfl
theorem fk73 : Fok 73 .body := call_body Tryd.func73 rfl rfl
theorem fk74 : Fok 74 .body := call_body Tryd.func74 rfl rfl
theorem fk75 : Fok 75 .body := call_body Tryd.func75 rfl rfl
theorem fk76 : Fok 76 .body := call_body Tryd.func76 rfl rfl
theorem fk77 : Fok 77 .body := call_body Tryd.func77 rfl rfl
theorem fk78 : Fok 78 .body := call_body Tryd.func78 rfl rfl
theorem fk79 : Fok 79 .body := call_body Tryd.func79 rfl rfl
theorem fk80 : Fok 80 .body := call_body Tryd.func80 rfl rfl
theorem fk81 : Fok 81 .body := call_body Tryd.func81 rfl rfl
theorem fk82 : Fok 82 .body := call_body Tryd.func82 rfl rfl
theorem fk83 : Fok 83 .body := call_body Tryd.func83 rfl rfl
theorem fk84 : Fok 84 .body := call_body Tryd.func84 rfl rfl
theorem fk85 : Fok 85 .body := call_body Tryd.func85 rfl rfl
theorem fk86 : Fok 86 .body := call_body Tryd.func86 rfl rfl
theorem fk87 : Fok 87 .body := call_body Tryd.func87 rfl rfl
theorem fk88 : Fok 88 .body := call_body Tryd.func88 rfl rfl
theorem fk89 : Fok 89 .body := call_body Tryd.func89 rfl rfl
theorem fk90 : Fok 90 .f32bits := fun n w => by kernel_rfl
theorem fk91 : Fok 91 .body := call_body Tryd.func91 rfl rfl
theorem fk92 : Fok 92 .body := call_body Tryd.func92 rfl rfl
theorem fk93 : Fok 93 .body := call_body Tryd.func93 rfl rfl
theorem fk94 : Fok 94 .body := call_body Tryd.func94 rfl rfl
theorem fk95 : Fok 95 .body := call_body Tryd.func95 rfl rfl
theorem fk96 : Fok 96 .body := call_body Tryd.func96 rfl rfl
theorem fk97 : Fok 97 .body := call_body Tryd.func97 rfl rfl
theorem fk98 : Fok 98 .body := call_body Tryd.func98 rfl rfl
theorem fk99 : Fok 99 .body := call_body Tryd.func99 rfl rfl
theorem fk100 : Fok 100 .body := call_body Tryd.func100 rfl rfl
theorem fk101 : Fok 101 .body := call_body Tryd.func101 rfl rfl
theorem fk102 : Fok 102 .body := call_body Tryd.func102 rfl rfl
theorem fk103 : Fok 103 .body := call_body Tryd.func103 rfl rfl
theorem fk104 : Fok 104 .body := call_body Tryd.func104 rfl rfl
theorem fk105 : Fok 105 .body := call_body Tryd.func105 rfl rfl
theorem fk106 : Fok 106 .body := call_body Tryd.func106 rfl rfl
theorem fk107 : Fok 107 .body := call_body Tryd.func107 rfl rfl
theorem fk108 : Fok 108 .body := call_body Tryd.func108 rfl rfl
theorem fk136 : Fok 136 .body := call_body Tryd.func136 rfl rfl
theorem allF : All Fok ftab := ⟨fk3, ⟨fk4, ⟨fk5, ⟨fk6, ⟨fk7, ⟨fk8, ⟨fk9, ⟨fk10, ⟨fk11, ⟨fk12, ⟨fk13, ⟨fk14, ⟨fk15, ⟨fk16, ⟨fk17, ⟨fk18, ⟨fk19, ⟨fk20, ⟨fk21, ⟨fk22, ⟨fk23, ⟨fk24, ⟨fk25, ⟨fk26, ⟨fk27, ⟨fk28, ⟨fk29, ⟨fk30, ⟨fk31, ⟨fk32, ⟨fk33, ⟨fk34, ⟨fk35, ⟨fk36, ⟨fk37, ⟨fk38, ⟨fk39, ⟨fk40, ⟨fk41, ⟨fk42, ⟨fk43, ⟨fk44, ⟨fk45, ⟨fk46, ⟨fk47, ⟨fk48, ⟨fk49, ⟨fk50, ⟨fk51, ⟨fk52, ⟨fk53, ⟨fk54, ⟨fk55, ⟨fk56, ⟨fk57, ⟨fk58, ⟨fk59, ⟨fk60, ⟨fk61, ⟨fk62, ⟨fk63, ⟨fk64, ⟨fk65, ⟨fk66, ⟨fk67, ⟨fk68, ⟨fk69, ⟨fk70, ⟨fk71, ⟨fk72, ⟨fk73, ⟨fk74, ⟨fk75, ⟨fk76, ⟨fk77, ⟨fk78, ⟨fk79, ⟨fk80, ⟨fk81, ⟨fk82, ⟨fk83, ⟨fk84, ⟨fk85, ⟨fk86, ⟨fk87, ⟨fk88, ⟨fk89, ⟨fk90, ⟨fk91, ⟨fk92, ⟨fk93, ⟨fk94, ⟨fk95, ⟨fk96, ⟨fk97, ⟨fk98, ⟨fk99, ⟨fk100, ⟨fk101, ⟨fk102, ⟨fk103, ⟨fk104, ⟨fk105, ⟨fk106, ⟨fk107, ⟨fk108, ⟨fk136, trivial⟩⟩⟩⟩⟩⟩⟩⟩⟩⟩⟩⟩⟩⟩⟩⟩⟩⟩⟩⟩⟩⟩⟩⟩⟩⟩⟩⟩⟩⟩⟩⟩⟩⟩⟩⟩⟩⟩⟩⟩⟩⟩⟩⟩⟩⟩⟩⟩⟩⟩⟩⟩⟩⟩⟩⟩⟩⟩⟩⟩⟩⟩⟩⟩⟩⟩⟩⟩⟩⟩⟩⟩⟩⟩⟩⟩⟩⟩⟩⟩⟩⟩⟩⟩⟩⟩⟩⟩⟩⟩⟩⟩⟩⟩⟩⟩⟩⟩⟩⟩⟩⟩⟩⟩⟩⟩⟩
theorem fk_of {f : Nat} {k : FK} (hk : k ≠ .none) (h : E.F f = k) : Fok f k := by
  unfold E at h
  dsimp only at h
  split at h
  · rename_i k' hl; subst h; exact allF.of f _ (look_mem hl)
  · exact absurd h.symm hk
theorem ok0 : EnvOK Tryd.prog E where
  T := fun t ti h => allT.of t ti (look_mem h)
  body := fun f h => fk_of (by simp) h
  f32bits := fun f h => fk_of (by simp) h
  f32from := fun f h => fk_of (by simp) h
  f64bits := fun f h => fk_of (by simp) h
  f64from := fun f h => fk_of (by simp) h
theorem ok : GEnv pg E := ⟨ok0, rfl⟩
end Go.Proofs.YtnkefikpejjjcaaDoor.Env
