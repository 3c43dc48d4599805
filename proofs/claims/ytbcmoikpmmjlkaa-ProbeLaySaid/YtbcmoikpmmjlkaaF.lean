/- Transformers of the seat's functions, printed by wip/ftext.py; each is sound by the engine. -/
import Derived.Test.YtbcmoikpmmjlkaaE
import Derived.Test.YtbcmoikpmmjlkaaProg
namespace Go.Proofs.Ytbcmoikpmmjlkaa
open Go Eng
noncomputable abbrev Pg : Program := Try.prog

/-- hourbook/hourbooklaw18.LinkHeads -/
def F3 (a0 a1 : Value) (w : World) (R : Value → World → Prop) : Prop :=
  callV Pg true (Fv 10) #[a0] w fun t22 w =>
  pureP Pg (Instr.extract t22 0) fun t23 =>
  pureP Pg (Instr.extract t22 1) fun t24 =>
  callV Pg true (Fv 11) #[] w fun t25 w =>
  callV Pg true (Fv 11) #[] w fun t26 w =>
  pureP Pg (binS .rem 5 a1 (.int .u8 8)) fun t28 =>
  pureP Pg (binS .add 5 (.int .u8 97) t28) fun t29 =>
  S Pg (Instr.makeMap 29 none) w fun t30 w =>
  loopP [(.int .i64 0)] w fun s14 w next14 => -- t11
  pureP Pg (Builtin.len_ #[23] 3 #[t23]) fun t33 =>
  pureP Pg (binS .lss 3 (nthV s14 0) t33) fun t34 =>
  ifV t34 (
    pureP Pg (Instr.indexAt 23 t23 (nthV s14 0)) fun t40 =>
    getO (loadW Pg 40 t40 w) fun t41 =>
    callV Pg true (Fv 12) #[t25, t41] w fun t42 w =>
    pureP Pg (binS .neq 30 t42 (.int .i64 0)) fun t43 =>
    ifV t43 (
      R (.bool false) w
      ) (
      pureP Pg (Instr.indexAt 23 t23 (nthV s14 0)) fun t46 =>
      pureP Pg (Instr.fieldAt 40 t46 2) fun t47 =>
      pureP Pg (Instr.fieldAt 38 t47 2) fun t48 =>
      getO (loadW Pg 36 t48 w) fun t49 =>
      pureP Pg (Instr.indexAt 36 t49 (.int .i64 0)) fun t50 =>
      getO (loadW Pg 5 t50 w) fun t51 =>
      pureP Pg (Instr.indexAt 23 t23 (nthV s14 0)) fun t56 =>
      getO (loadW Pg 40 t56 w) fun t57 =>
      U Pg (Instr.mapUpdate 29 t30 t51 t57) w fun w =>
      pureP Pg (binS .neq 5 t51 t29) fun t60 =>
      ifV t60 (
        pureP Pg (Instr.indexAt 23 t23 (nthV s14 0)) fun t65 =>
        getO (loadW Pg 40 t65 w) fun t66 =>
        callV Pg true (Fv 12) #[t26, t66] w fun t67 w =>
        pureP Pg (binS .neq 30 t67 (.int .i64 0)) fun t68 =>
        ifV t68 (
          R (.bool false) w
          ) (
          pureP Pg (binS .add 3 (nthV s14 0) (.int .i64 1)) fun t36 =>
          next14 [t36] w
          )
        ) (
        pureP Pg (binS .add 3 (nthV s14 0) (.int .i64 1)) fun t36_1 =>
        next14 [t36_1] w
        )
      )
    ) (
    loopP [(.int .u8 97)] w fun s47 w next47 => -- t13
    pureP Pg (binS .leq 5 (nthV s47 0) (.int .u8 104)) fun t71 =>
    ifV t71 (
      S Pg (Instr.buildSlice 36 1 #[(0, (nthV s47 0))]) w fun t77 w =>
      callV Pg true (Fv 13) #[t25, t77] w fun t78 w =>
      pureP Pg (Instr.extract t78 0) fun t79 =>
      pureP Pg (Instr.extract t78 1) fun t80 =>
      newP (zeroT Pg 42) 42 w fun t14 w =>
      getU (storeW Pg 42 t14 t79 w) fun w =>
      S Pg (Instr.buildSlice 36 1 #[(0, (nthV s47 0))]) w fun t84 w =>
      callV Pg true (Fv 13) #[t26, t84] w fun t85 w =>
      pureP Pg (Instr.extract t85 0) fun t86 =>
      pureP Pg (Instr.extract t85 1) fun t87 =>
      newP (zeroT Pg 42) 42 w fun t16 w =>
      getU (storeW Pg 42 t16 t86 w) fun w =>
      getO (runR Pg (Instr.lookup 29 t30 (nthV s47 0) true) w) fun t91 =>
      pureP Pg (Instr.extract t91 0) fun t92 =>
      pureP Pg (Instr.extract t91 1) fun t93 =>
      newP (zeroT Pg 40) 40 w fun t18 w =>
      getU (storeW Pg 40 t18 t92 w) fun w =>
      pureP Pg (binS .neq 4 t80 t93) fun t96 =>
      ifV t96 (
        R (.bool false) w
        ) (
        ifV t80 (
          pureP Pg (Instr.fieldAt 42 t14 0) fun t100 =>
          getO (loadW Pg 34 t100 w) fun t101 =>
          pureP Pg (Instr.fieldAt 40 t18 0) fun t102 =>
          getO (loadW Pg 34 t102 w) fun t103 =>
          pureP Pg (binS .neq 34 t101 t103) fun t104 =>
          ifV t104 (
            R (.bool false) w
            ) (
            pureP Pg (Instr.fieldAt 42 t14 1) fun t106 =>
            getO (loadW Pg 35 t106 w) fun t107 =>
            pureP Pg (Instr.fieldAt 40 t18 2) fun t108 =>
            pureP Pg (Instr.fieldAt 38 t108 0) fun t109 =>
            getO (loadW Pg 35 t109 w) fun t110 =>
            pureP Pg (binS .neq 35 t107 t110) fun t111 =>
            ifV t111 (
              R (.bool false) w
              ) (
              pureP Pg (Instr.fieldAt 42 t14 2) fun t114 =>
              getO (loadW Pg 3 t114 w) fun t115 =>
              pureP Pg (Instr.fieldAt 40 t18 2) fun t116 =>
              pureP Pg (Instr.fieldAt 38 t116 1) fun t117 =>
              getO (loadW Pg 3 t117 w) fun t118 =>
              pureP Pg (binS .neq 3 t115 t118) fun t119 =>
              ifV t119 (
                R (.bool false) w
                ) (
                ifV t93 (
                  pureP Pg (binS .neq 5 (nthV s47 0) t29) fun t129 =>
                  pureP Pg (binS .neq 4 t87 t129) fun t131 =>
                  ifV t131 (
                    R (.bool false) w
                    ) (
                    ifV t87 (
                      getO (loadW Pg 42 t16 w) fun t136 =>
                      getO (loadW Pg 42 t14 w) fun t137 =>
                      pureP Pg (binS .neq 42 t136 t137) fun t138 =>
                      ifV t138 (
                        R (.bool false) w
                        ) (
                        pureP Pg (binS .add 5 (nthV s47 0) (.int .u8 1)) fun t73 =>
                        next47 [t73] w
                        )
                      ) (
                      pureP Pg (binS .add 5 (nthV s47 0) (.int .u8 1)) fun t73_1 =>
                      next47 [t73_1] w
                      )
                    )
                  ) (
                  pureP Pg (binS .neq 4 t87 (.bool false)) fun t131_1 =>
                  ifV t131_1 (
                    R (.bool false) w
                    ) (
                    ifV t87 (
                      getO (loadW Pg 42 t16 w) fun t136_1 =>
                      getO (loadW Pg 42 t14 w) fun t137_1 =>
                      pureP Pg (binS .neq 42 t136_1 t137_1) fun t138_1 =>
                      ifV t138_1 (
                        R (.bool false) w
                        ) (
                        pureP Pg (binS .add 5 (nthV s47 0) (.int .u8 1)) fun t73_2 =>
                        next47 [t73_2] w
                        )
                      ) (
                      pureP Pg (binS .add 5 (nthV s47 0) (.int .u8 1)) fun t73_3 =>
                      next47 [t73_3] w
                      )
                    )
                  )
                )
              )
            )
          ) (
          ifV t93 (
            pureP Pg (binS .neq 5 (nthV s47 0) t29) fun t129_1 =>
            pureP Pg (binS .neq 4 t87 t129_1) fun t131_2 =>
            ifV t131_2 (
              R (.bool false) w
              ) (
              ifV t87 (
                getO (loadW Pg 42 t16 w) fun t136_2 =>
                getO (loadW Pg 42 t14 w) fun t137_2 =>
                pureP Pg (binS .neq 42 t136_2 t137_2) fun t138_2 =>
                ifV t138_2 (
                  R (.bool false) w
                  ) (
                  pureP Pg (binS .add 5 (nthV s47 0) (.int .u8 1)) fun t73_4 =>
                  next47 [t73_4] w
                  )
                ) (
                pureP Pg (binS .add 5 (nthV s47 0) (.int .u8 1)) fun t73_5 =>
                next47 [t73_5] w
                )
              )
            ) (
            pureP Pg (binS .neq 4 t87 (.bool false)) fun t131_3 =>
            ifV t131_3 (
              R (.bool false) w
              ) (
              ifV t87 (
                getO (loadW Pg 42 t16 w) fun t136_3 =>
                getO (loadW Pg 42 t14 w) fun t137_3 =>
                pureP Pg (binS .neq 42 t136_3 t137_3) fun t138_3 =>
                ifV t138_3 (
                  R (.bool false) w
                  ) (
                  pureP Pg (binS .add 5 (nthV s47 0) (.int .u8 1)) fun t73_6 =>
                  next47 [t73_6] w
                  )
                ) (
                pureP Pg (binS .add 5 (nthV s47 0) (.int .u8 1)) fun t73_7 =>
                next47 [t73_7] w
                )
              )
            )
          )
        )
      ) (
      ∃ St : World → Prop, St w.drew ∧ drewP w fun w =>
      pureP Pg (Builtin.len_ #[23] 3 #[t23]) fun t144 =>
      readP St (runR Pg (Instr.lookup 24 t24 t29 false)) fun t147 =>
      pureP Pg (Builtin.len_ #[47] 3 #[t147]) fun t148 =>
      pureP Pg (binS .sub 3 t144 t148) fun t149 =>
      callV Pg false (Fv 14) #[t26] w fun t142 w =>
      St w ∧ (
        pureP Pg (binS .eql 3 t142 t149) fun t150 =>
        ifV t150 (
          callV Pg false (Fv 15) #[t26] w fun t153 w =>
          St w ∧ (
            pureP Pg (Builtin.len_ #[47] 3 #[t153]) fun t154 =>
            pureP Pg (binS .eql 3 t154 (.int .i64 0)) fun t155 =>
            ifV t155 (
              callV Pg false (Fv 16) #[] w fun t158 w =>
              St w ∧ (
                R t158 w
              )
              ) (
              R (.bool false) w
              )
          )
          ) (
          R (.bool false) w
          )
      )
      )
    )
theorem f3 {a0 a1 : Value} {w : World} {R : Value → World → Prop} (h : F3 a0 a1 w R) : Calls Pg 3 #[a0, a1] w (retK R) :=
  fn_sound (args := [a0, a1]) Try.func3 (by kernel_rfl) (annOf [(14, [11]), (47, [13])]) (of_eq (by kernel_rfl) (by kernel_rfl) h)
theorem c3 {r : Bool} {a0 a1 : Value} {w : World} {K : Value → World → Prop} (h : F3 a0 a1 w K) : callV Pg r (.func (.func 3) #[] #[]) #[a0, a1] w K :=
  call_of Try.func3 (by kernel_rfl) (by kernel_rfl) (by kernel_rfl) (f3 h)

/-- hourbook/hourbooklaw20.SeenLinks -/
def F4 (a0 a1 : Value) (w : World) (R : Value → World → Prop) : Prop :=
  callV Pg true (Fv 11) #[] w fun t18 w =>
  pureP Pg (binS .eql 27 t18 (.pointer none)) fun t20 =>
  ifV t20 (
    R (.bool false) w
    ) (
    S Pg (Instr.makeMap 51 none) w fun t21 w =>
    S Pg (Instr.makeMap 52 none) w fun t22 w =>
    joinP (fun J16 =>
      loopP [(.int .i64 0)] w fun s20 w next20 => -- t8
      pureP Pg (Builtin.len_ #[36] 3 #[a0]) fun t25 =>
      pureP Pg (binS .lss 3 (nthV s20 0) t25) fun t26 =>
      ifV t26 (
        pureP Pg (binS .lss 3 (nthV s20 0) (.int .i64 60)) fun t29 =>
        ifV t29 (
          pureP Pg (Instr.indexAt 36 a0 (nthV s20 0)) fun t35 =>
          getO (loadW Pg 5 t35 w) fun t36 =>
          pureP Pg (binS .rem 5 t36 (.int .u8 8)) fun t37 =>
          pureP Pg (binS .add 5 (.int .u8 97) t37) fun t38 =>
          pureP Pg (convert 3 32 (nthV s20 0)) fun t40 =>
          pureP Pg (binS .mul 32 (.int .u32 30) t40) fun t41 =>
          pureP Pg (binS .add 32 (.int .u32 16) t41) fun t42 =>
          pureP Pg (Instr.build 34 #[(0, (.int .u32 1)), (1, t42)]) fun t43 =>
          pureP Pg (convert 3 35 (nthV s20 0)) fun t45 =>
          pureP Pg (binS .add 35 t45 (.int .u64 1)) fun t46 =>
          S Pg (Instr.buildSlice 36 1 #[(0, t38)]) w fun t48 w =>
          pureP Pg (Instr.build 38 #[(0, t46), (1, (.int .i64 1)), (2, t48)]) fun t49 =>
          pureP Pg (Instr.build 40 #[(0, t43), (2, t49)]) fun t50 =>
          newP (zeroT Pg 40) 40 w fun t10 w =>
          getU (storeW Pg 40 t10 t50 w) fun w =>
          getO (loadW Pg 40 t10 w) fun t52 =>
          callV Pg true (Fv 12) #[t18, t52] w fun t53 w =>
          pureP Pg (binS .neq 30 t53 (.int .i64 0)) fun t54 =>
          ifV t54 (
            R (.bool false) w
            ) (
            getO (runR Pg (Instr.lookup 51 t21 t38 false) w) fun t59 =>
            pureP Pg (convert 3 35 (nthV s20 0)) fun t61 =>
            pureP Pg (binS .add 35 t61 (.int .u64 1)) fun t62 =>
            pureP Pg (Instr.build 55 #[(0, t62), (1, (.int .i64 1))]) fun t63 =>
            S Pg (Instr.buildSlice 53 1 #[(0, t63)]) w fun t64 w =>
            S Pg (Builtin.append_ #[53, 53] 53 #[t59, t64]) w fun t65 w =>
            U Pg (Instr.mapUpdate 51 t21 t38 t65) w fun w =>
            pureP Pg (Instr.fieldAt 40 t10 0) fun t67 =>
            getO (loadW Pg 34 t67 w) fun t68 =>
            pureP Pg (convert 3 35 (nthV s20 0)) fun t70 =>
            pureP Pg (binS .add 35 t70 (.int .u64 1)) fun t71 =>
            U Pg (Instr.mapUpdate 52 t22 t68 t71) w fun w =>
            pureP Pg (binS .add 3 (nthV s20 0) (.int .i64 1)) fun t32 =>
            next20 [t32] w
            )
          ) (
          J16 [] w
          )
        ) (
        J16 [] w
        )
      ) fun _ w =>
    S Pg (Instr.range 51 t21) w fun t73 w =>
    loopP [] w fun _ w next49 => -- 
    S Pg (Instr.next t73 false 0) w fun t74 w =>
    pureP Pg (Instr.extract t74 0) fun t75 =>
    ifV t75 (
      getO (runR Pg (Instr.entry t73) w) fun t76 =>
      pureP Pg (Instr.extract t76 0) fun t77 =>
      pureP Pg (Instr.extract t76 1) fun t78 =>
      S Pg (Instr.buildSlice 36 1 #[(0, t77)]) w fun t82 w =>
      callV Pg true (Fv 13) #[t18, t82] w fun t83 w =>
      pureP Pg (Instr.extract t83 0) fun t84 =>
      pureP Pg (Instr.extract t83 1) fun t85 =>
      newP (zeroT Pg 42) 42 w fun t13 w =>
      getU (storeW Pg 42 t13 t84 w) fun w =>
      pureP Pg (Op.unary .not t85) fun t87 =>
      ifV t87 (
        R (.bool false) w
        ) (
        pureP Pg (Instr.fieldAt 42 t13 0) fun t88 =>
        getO (loadW Pg 34 t88 w) fun t89 =>
        newP (zeroT Pg 34) 34 w fun t15 w =>
        getU (storeW Pg 34 t15 t89 w) fun w =>
        joinP (fun J71 =>
          loopP [] w fun _ w next73 => -- 
          getO (loadW Pg 34 t15 w) fun t90 =>
          pureP Pg (Instr.build 34 #[]) fun t91 =>
          pureP Pg (binS .neq 34 t90 t91) fun t92 =>
          ifV t92 (
            getO (loadW Pg 34 t15 w) fun t95 =>
            getO (runR Pg (Instr.lookup 52 t22 t95 false) w) fun t96 =>
            pureP Pg (convert 5 35 a1) fun t98 =>
            pureP Pg (binS .gtr 35 t96 t98) fun t99 =>
            ifV t99 (
              getO (loadW Pg 34 t15 w) fun t103 =>
              callV Pg true (Fv 17) #[t18, t103] w fun t104 w =>
              pureP Pg (Instr.extract t104 0) fun t105 =>
              pureP Pg (Instr.extract t104 1) fun t106 =>
              getU (storeW Pg 34 t15 t105 w) fun w =>
              pureP Pg (Op.unary .not t106) fun t108 =>
              ifV t108 (
                R (.bool false) w
                ) (
                next73 [] w
                )
              ) (
              J71 [] w
              )
            ) (
            J71 [] w
            )
          ) fun _ w =>
        pureP Pg (convert 5 35 a1) fun t112 =>
        callV Pg true (Fv 18) #[t78, t112] w fun t113 w =>
        pureP Pg (Instr.extract t113 0) fun t114 =>
        pureP Pg (Instr.extract t113 1) fun t115 =>
        ∃ St : World → Prop, St w.drew ∧ drewP w fun w =>
        readP St (loadW Pg 34 t15) fun t117 =>
        pureP Pg (Instr.build 34 #[]) fun t118 =>
        pureP Pg (binS .neq 34 t117 t118) fun t119 =>
        pureP Pg (binS .neq 4 t115 t119) fun t120 =>
        ifV t120 (
          R (.bool false) w
          ) (
          ifV t115 (
            pureP Pg (Instr.indexAt 53 t78 t114) fun t126 =>
            pureP Pg (Instr.fieldAt 55 t126 0) fun t127 =>
            readP St (loadW Pg 35 t127) fun t128 =>
            readP St (loadW Pg 34 t15) fun t130 =>
            readP St (runR Pg (Instr.lookup 52 t22 t130 false)) fun t131 =>
            pureP Pg (binS .neq 35 t128 t131) fun t132 =>
            ifV t132 (
              R (.bool false) w
              ) (
              next49 [] w
              )
            ) (
            next49 [] w
            )
          )
        )
      ) (
      callV Pg true (Fv 19) #[] w fun t135 w =>
      R t135 w
      )
    )
theorem f4 {a0 a1 : Value} {w : World} {R : Value → World → Prop} (h : F4 a0 a1 w R) : Calls Pg 4 #[a0, a1] w (retK R) :=
  fn_sound (args := [a0, a1]) Try.func4 (by kernel_rfl) (annOf [(16, []), (20, [8]), (49, []), (71, []), (73, [])]) (of_eq (by kernel_rfl) (by kernel_rfl) h)
theorem c4 {r : Bool} {a0 a1 : Value} {w : World} {K : Value → World → Prop} (h : F4 a0 a1 w K) : callV Pg r (.func (.func 4) #[] #[]) #[a0, a1] w K :=
  call_of Try.func4 (by kernel_rfl) (by kernel_rfl) (by kernel_rfl) (f4 h)

/-- hourbook/hourbooklaw25.PlanStays -/
def F5 (a0 a1 a2 : Value) (w : World) (R : Value → World → Prop) : Prop :=
  callV Pg true (Fv 20) #[a0] w fun t32 w =>
  pureP Pg (Instr.extract t32 0) fun t33 =>
  pureP Pg (Instr.extract t32 1) fun t34 =>
  joinP (fun J6 =>
    pureP Pg (Builtin.len_ #[36] 3 #[a1]) fun t36 =>
    loopP [(.slice none 0 0), (.int .i64 0)] w fun s10 w next10 => -- t9 t37
    pureP Pg (binS .lss 3 (nthV s10 1) t36) fun t38 =>
    ifV t38 (
      pureP Pg (Instr.indexAt 36 a1 (nthV s10 1)) fun t40 =>
      getO (loadW Pg 5 t40 w) fun t41 =>
      pureP Pg (binS .eql 3 (nthV s10 1) (.int .i64 10)) fun t43 =>
      ifV t43 (
        J6 [(nthV s10 0)] w
        ) (
        pureP Pg (convert 5 35 t41) fun t46 =>
        pureP Pg (binS .add 35 t34 (.int .u64 1)) fun t48 =>
        pureP Pg (binS .rem 35 t46 t48) fun t49 =>
        S Pg (Instr.buildSlice 66 1 #[(0, t49)]) w fun t50 w =>
        S Pg (Builtin.append_ #[66, 66] 66 #[(nthV s10 0), t50]) w fun t51 w =>
        pureP Pg (binS .add 3 (nthV s10 1) (.int .i64 1)) fun t52 =>
        next10 [t51, t52] w
        )
      ) (
      J6 [(nthV s10 0)] w
      )
    ) fun s6 w =>
  pureP Pg (convert 62 3 a2) fun t57 =>
  pureP Pg (binS .rem 3 t57 (.int .i64 9000)) fun t58 =>
  pureP Pg (binS .add 3 (.int .i64 4096) t58) fun t59 =>
  callV Pg true (Fv 21) #[t33, (nthV s6 0), t59, (.int .u32 3)] w fun t60 w =>
  pureP Pg (Instr.extract t60 0) fun t61 =>
  pureP Pg (Instr.extract t60 1) fun t62 =>
  newP (zeroT Pg 70) 70 w fun t12 w =>
  getU (storeW Pg 70 t12 t61 w) fun w =>
  callV Pg true (Fv 22) #[] w fun t63 w =>
  pureP Pg (Op.unary .not t63) fun t64 =>
  ifV t64 (
    R (.bool false) w
    ) (
    pureP Pg (binS .neq 30 t62 (.int .i64 0)) fun t67 =>
    ifV t67 (
      R (.bool false) w
      ) (
      pureP Pg (Builtin.len_ #[63] 3 #[t33]) fun t70 =>
      loopP [(.slice none 0 0), (.int .i64 0)] w fun s45 w next45 => -- t14 t71
      pureP Pg (binS .lss 3 (nthV s45 1) t70) fun t72 =>
      ifV t72 (
        S Pg (Instr.buildSlice 73 1 #[(0, (nthV s45 1))]) w fun t76 w =>
        S Pg (Builtin.append_ #[73, 73] 73 #[(nthV s45 0), t76]) w fun t77 w =>
        pureP Pg (binS .add 3 (nthV s45 1) (.int .i64 1)) fun t78 =>
        next45 [t77, t78] w
        ) (
        pureP Pg (Instr.fieldAt 70 t12 0) fun t79 =>
        getO (loadW Pg 67 t79 w) fun t80 =>
        pureP Pg (Builtin.len_ #[67] 3 #[t80]) fun t81 =>
        loopP [(.slice none 0 0), (.int .i64 0)] w fun s62 w next62 => -- t15 t82
        pureP Pg (binS .lss 3 (nthV s62 1) t81) fun t83 =>
        ifV t83 (
          pureP Pg (Instr.indexAt 67 t80 (nthV s62 1)) fun t84 =>
          getO (loadW Pg 75 t84 w) fun t85 =>
          newP (zeroT Pg 75) 75 w fun t18 w =>
          getU (storeW Pg 75 t18 t85 w) fun w =>
          pureP Pg (Instr.fieldAt 75 t18 0) fun t87 =>
          getO (loadW Pg 3 t87 w) fun t88 =>
          S Pg (Instr.buildSlice 73 1 #[(0, t88)]) w fun t89 w =>
          S Pg (Builtin.append_ #[73, 73] 73 #[(nthV s62 0), t89]) w fun t90 w =>
          pureP Pg (binS .add 3 (nthV s62 1) (.int .i64 1)) fun t91 =>
          next62 [t90, t91] w
          ) (
          S Pg (Instr.makeMap 76 none) w fun t92 w =>
          pureP Pg (Builtin.len_ #[66] 3 #[(nthV s6 0)]) fun t94 =>
          loopP [(.int .i64 0)] w fun s81 w next81 => -- t95
          pureP Pg (binS .lss 3 (nthV s81 0) t94) fun t96 =>
          ifV t96 (
            pureP Pg (Instr.indexAt 66 (nthV s6 0) (nthV s81 0)) fun t97 =>
            getO (loadW Pg 35 t97 w) fun t98 =>
            loopP [(.int .u64 0)] w fun s95 w next95 => -- t99
            pureP Pg (binS .lss 35 (nthV s95 0) (.int .u64 5)) fun t100 =>
            ifV t100 (
              callV Pg true (Fv 23) #[t33, (nthV s45 0), (nthV s95 0), t98] w fun t106 w =>
              callV Pg true (Fv 23) #[t33, (nthV s62 0), (nthV s95 0), t98] w fun t111 w =>
              joinP (fun J108 =>
                ∃ St : World → Prop, St w.drew ∧ drewP w fun w =>
                pureP Pg (binS .geq 3 t106 (.int .i64 0)) fun t113 =>
                ifV t113 (
                  pureP Pg (Instr.indexAt 63 t33 t106) fun t117 =>
                  pureP Pg (Instr.fieldAt 79 t117 2) fun t118 =>
                  readP St (loadW Pg 3 t118) fun t119 =>
                  pureP Pg (binS .eql 3 t119 (.int .i64 1)) fun t120 =>
                  pureP Pg (binS .geq 3 t111 (.int .i64 0)) fun t123 =>
                  ifV t123 (
                    pureP Pg (Instr.indexAt 63 t33 t111) fun t127 =>
                    pureP Pg (Instr.fieldAt 79 t127 2) fun t128 =>
                    readP St (loadW Pg 3 t128) fun t129 =>
                    pureP Pg (binS .eql 3 t129 (.int .i64 1)) fun t130 =>
                    J108 [t120, t130] w
                    ) (
                    J108 [t120, (.bool false)] w
                    )
                  ) (
                  pureP Pg (binS .geq 3 t111 (.int .i64 0)) fun t123_1 =>
                  ifV t123_1 (
                    pureP Pg (Instr.indexAt 63 t33 t111) fun t127_1 =>
                    pureP Pg (Instr.fieldAt 79 t127_1 2) fun t128_1 =>
                    readP St (loadW Pg 3 t128_1) fun t129_1 =>
                    pureP Pg (binS .eql 3 t129_1 (.int .i64 1)) fun t130_1 =>
                    J108 [(.bool false), t130_1] w
                    ) (
                    J108 [(.bool false), (.bool false)] w
                    )
                  )
                ) fun s108 w =>
              pureP Pg (binS .neq 4 (nthV s108 0) (nthV s108 1)) fun t134 =>
              ifV t134 (
                R (.bool false) w
                ) (
                ifV (nthV s108 0) (
                  pureP Pg (binS .neq 3 t106 t111) fun t140 =>
                  ifV t140 (
                    R (.bool false) w
                    ) (
                    pureP Pg (binS .geq 3 t106 (.int .i64 0)) fun t144 =>
                    ifV t144 (
                      U Pg (Instr.mapUpdate 76 t92 t106 (.int .i64 1)) w fun w =>
                      pureP Pg (binS .add 35 (nthV s95 0) (.int .u64 1)) fun t147 =>
                      next95 [t147] w
                      ) (
                      pureP Pg (binS .add 35 (nthV s95 0) (.int .u64 1)) fun t147_1 =>
                      next95 [t147_1] w
                      )
                    )
                  ) (
                  pureP Pg (binS .geq 3 t106 (.int .i64 0)) fun t144_1 =>
                  ifV t144_1 (
                    U Pg (Instr.mapUpdate 76 t92 t106 (.int .i64 1)) w fun w =>
                    pureP Pg (binS .add 35 (nthV s95 0) (.int .u64 1)) fun t147_2 =>
                    next95 [t147_2] w
                    ) (
                    pureP Pg (binS .add 35 (nthV s95 0) (.int .u64 1)) fun t147_3 =>
                    next95 [t147_3] w
                    )
                  )
                )
              ) (
              pureP Pg (binS .add 3 (nthV s81 0) (.int .i64 1)) fun t148 =>
              next81 [t148] w
              )
            ) (
            S Pg (Instr.makeMap 80 none) w fun t149 w =>
            pureP Pg (Builtin.len_ #[73] 3 #[(nthV s62 0)]) fun t151 =>
            loopP [(.int .i64 0)] w fun s131 w next131 => -- t152
            pureP Pg (binS .lss 3 (nthV s131 0) t151) fun t153 =>
            ifV t153 (
              pureP Pg (Instr.indexAt 73 (nthV s62 0) (nthV s131 0)) fun t154 =>
              getO (loadW Pg 3 t154 w) fun t155 =>
              joinP (fun J142 =>
                getO (runR Pg (Instr.lookup 76 t92 t155 false) w) fun t158 =>
                pureP Pg (binS .eql 3 t158 (.int .i64 0)) fun t159 =>
                ifV t159 (
                  R (.bool false) w
                  ) (
                  pureP Pg (Instr.indexAt 63 t33 t155) fun t163 =>
                  pureP Pg (Instr.fieldAt 79 t163 2) fun t164 =>
                  getO (loadW Pg 3 t164 w) fun t165 =>
                  pureP Pg (binS .eql 3 t165 (.int .i64 2)) fun t166 =>
                  ifV t166 (
                    pureP Pg (Instr.indexAt 63 t33 t155) fun t171 =>
                    pureP Pg (Instr.fieldAt 79 t171 0) fun t172 =>
                    getO (loadW Pg 36 t172 w) fun t173 =>
                    pureP Pg (Instr.indexAt 36 t173 (.int .i64 1)) fun t174 =>
                    getO (loadW Pg 5 t174 w) fun t175 =>
                    getO (runR Pg (Instr.lookup 80 t149 t175 false) w) fun t176 =>
                    pureP Pg (binS .eql 3 t176 (.int .i64 0)) fun t177 =>
                    ifV t177 (
                      R (.bool false) w
                      ) (
                      J142 [] w
                      )
                    ) (
                    J142 [] w
                    )
                  )
                ) fun _ w =>
              pureP Pg (Instr.indexAt 63 t33 t155) fun t183 =>
              pureP Pg (Instr.fieldAt 79 t183 0) fun t184 =>
              getO (loadW Pg 36 t184 w) fun t185 =>
              pureP Pg (Instr.indexAt 36 t185 (.int .i64 1)) fun t186 =>
              getO (loadW Pg 5 t186 w) fun t187 =>
              U Pg (Instr.mapUpdate 80 t149 t187 (.int .i64 1)) w fun w =>
              pureP Pg (binS .add 3 (nthV s131 0) (.int .i64 1)) fun t188 =>
              next131 [t188] w
              ) (
              R (.bool true) w
              )
            )
          )
        )
      )
    )
theorem f5 {a0 a1 a2 : Value} {w : World} {R : Value → World → Prop} (h : F5 a0 a1 a2 w R) : Calls Pg 5 #[a0, a1, a2] w (retK R) :=
  fn_sound (args := [a0, a1, a2]) Try.func5 (by kernel_rfl) (annOf [(6, [9]), (10, [9,37]), (45, [14,71]), (62, [15,82]), (81, [95]), (95, [99]), (108, [25,26]), (131, [152]), (142, [])]) (of_eq (by kernel_rfl) (by kernel_rfl) h)
theorem c5 {r : Bool} {a0 a1 a2 : Value} {w : World} {K : Value → World → Prop} (h : F5 a0 a1 a2 w K) : callV Pg r (.func (.func 5) #[] #[]) #[a0, a1, a2] w K :=
  call_of Try.func5 (by kernel_rfl) (by kernel_rfl) (by kernel_rfl) (f5 h)

/-- hourbook/hourbooklaw25.PlanAgain -/
def F6 (a0 a1 : Value) (w : World) (R : Value → World → Prop) : Prop :=
  callV Pg true (Fv 20) #[a0] w fun t29 w =>
  pureP Pg (Instr.extract t29 0) fun t30 =>
  pureP Pg (Instr.extract t29 1) fun _ =>
  S Pg (Instr.makeMap 82 none) w fun t32 w =>
  joinP (fun J8 =>
    pureP Pg (Builtin.len_ #[36] 3 #[a1]) fun t34 =>
    loopP [(.slice none 0 0), (.int .i64 0)] w fun s12 w next12 => -- t7 t35
    pureP Pg (binS .lss 3 (nthV s12 1) t34) fun t36 =>
    ifV t36 (
      pureP Pg (Instr.indexAt 36 a1 (nthV s12 1)) fun t38 =>
      getO (loadW Pg 5 t38 w) fun t39 =>
      pureP Pg (binS .eql 3 (nthV s12 1) (.int .i64 10)) fun t41 =>
      ifV t41 (
        J8 [(nthV s12 0)] w
        ) (
        pureP Pg (convert 5 35 t39) fun t44 =>
        S Pg (Instr.buildSlice 66 1 #[(0, t44)]) w fun t45 w =>
        S Pg (Builtin.append_ #[66, 66] 66 #[(nthV s12 0), t45]) w fun t46 w =>
        pureP Pg (convert 5 35 t39) fun t49 =>
        U Pg (Instr.mapUpdate 82 t32 t49 (.bool true)) w fun w =>
        pureP Pg (binS .add 3 (nthV s12 1) (.int .i64 1)) fun t50 =>
        next12 [t46, t50] w
        )
      ) (
      J8 [(nthV s12 0)] w
      )
    ) fun s8 w =>
  callV Pg true (Fv 21) #[t30, (nthV s8 0), (.int .i64 4096), (.int .u32 1)] w fun t54 w =>
  pureP Pg (Instr.extract t54 0) fun t55 =>
  pureP Pg (Instr.extract t54 1) fun t56 =>
  newP (zeroT Pg 70) 70 w fun t11 w =>
  getU (storeW Pg 70 t11 t55 w) fun w =>
  callV Pg true (Fv 22) #[] w fun t57 w =>
  pureP Pg (Op.unary .not t57) fun t58 =>
  ifV t58 (
    R (.bool false) w
    ) (
    pureP Pg (binS .neq 30 t56 (.int .i64 0)) fun t61 =>
    ifV t61 (
      R (.bool false) w
      ) (
      pureP Pg (Instr.fieldAt 70 t11 0) fun t64 =>
      getO (loadW Pg 67 t64 w) fun t65 =>
      pureP Pg (Builtin.len_ #[67] 3 #[t65]) fun t66 =>
      getO (runR Pg (Builtin.len_ #[82] 3 #[t32]) w) fun t68 =>
      pureP Pg (binS .mul 3 (.int .i64 5) t68) fun t69 =>
      pureP Pg (binS .gtr 3 t66 t69) fun t70 =>
      ifV t70 (
        R (.bool false) w
        ) (
        pureP Pg (Instr.fieldAt 70 t11 0) fun t72 =>
        getO (loadW Pg 67 t72 w) fun t73 =>
        pureP Pg (Builtin.len_ #[67] 3 #[t73]) fun t74 =>
        loopP [(.slice none 0 0), (.int .i64 0)] w fun s49 w next49 => -- t13 t75
        pureP Pg (binS .lss 3 (nthV s49 1) t74) fun t76 =>
        ifV t76 (
          pureP Pg (Instr.indexAt 67 t73 (nthV s49 1)) fun t77 =>
          getO (loadW Pg 75 t77 w) fun t78 =>
          newP (zeroT Pg 75) 75 w fun t15 w =>
          getU (storeW Pg 75 t15 t78 w) fun w =>
          pureP Pg (Instr.fieldAt 75 t15 0) fun t81 =>
          getO (loadW Pg 3 t81 w) fun t82 =>
          pureP Pg (Instr.indexAt 63 t30 t82) fun t83 =>
          getO (loadW Pg 79 t83 w) fun t84 =>
          S Pg (Instr.buildSlice 63 1 #[(0, t84)]) w fun t85 w =>
          S Pg (Builtin.append_ #[63, 63] 63 #[(nthV s49 0), t85]) w fun t86 w =>
          pureP Pg (binS .add 3 (nthV s49 1) (.int .i64 1)) fun t87 =>
          next49 [t86, t87] w
          ) (
          callV Pg true (Fv 21) #[(nthV s49 0), (nthV s8 0), (.int .i64 4096), (.int .u32 1)] w fun t91 w =>
          pureP Pg (Instr.extract t91 0) fun t92 =>
          pureP Pg (Instr.extract t91 1) fun t93 =>
          newP (zeroT Pg 70) 70 w fun t16 w =>
          getU (storeW Pg 70 t16 t92 w) fun w =>
          pureP Pg (binS .neq 30 t93 (.int .i64 0)) fun t95 =>
          ifV t95 (
            R (.bool false) w
            ) (
            pureP Pg (Instr.fieldAt 70 t16 0) fun t97 =>
            getO (loadW Pg 67 t97 w) fun t98 =>
            pureP Pg (Builtin.len_ #[67] 3 #[t98]) fun t99 =>
            pureP Pg (Builtin.len_ #[63] 3 #[(nthV s49 0)]) fun t101 =>
            pureP Pg (binS .neq 3 t99 t101) fun t102 =>
            ifV t102 (
              R (.bool false) w
              ) (
              pureP Pg (Instr.fieldAt 70 t16 0) fun t104 =>
              getO (loadW Pg 67 t104 w) fun t105 =>
              pureP Pg (Builtin.len_ #[67] 3 #[t105]) fun t106 =>
              loopP [(.int .i64 0)] w fun s76 w next76 => -- t107
              pureP Pg (binS .lss 3 (nthV s76 0) t106) fun t108 =>
              ifV t108 (
                pureP Pg (Instr.indexAt 67 t105 (nthV s76 0)) fun t110 =>
                getO (loadW Pg 75 t110 w) fun t111 =>
                newP (zeroT Pg 75) 75 w fun t19 w =>
                getU (storeW Pg 75 t19 t111 w) fun w =>
                ∃ St : World → Prop, St w.drew ∧ drewP w fun w =>
                pureP Pg (Instr.fieldAt 75 t19 0) fun t112 =>
                readP St (loadW Pg 3 t112) fun t113 =>
                pureP Pg (binS .neq 3 t113 (nthV s76 0)) fun t115 =>
                ifV t115 (
                  R (.bool false) w
                  ) (
                  pureP Pg (Instr.fieldAt 75 t19 1) fun t117 =>
                  readP St (loadW Pg 34 t117) fun t118 =>
                  pureP Pg (Instr.fieldAt 70 t11 0) fun t119 =>
                  readP St (loadW Pg 67 t119) fun t120 =>
                  pureP Pg (Instr.indexAt 67 t120 (nthV s76 0)) fun t122 =>
                  pureP Pg (Instr.fieldAt 75 t122 1) fun t123 =>
                  readP St (loadW Pg 34 t123) fun t124 =>
                  pureP Pg (binS .neq 34 t118 t124) fun t125 =>
                  ifV t125 (
                    R (.bool false) w
                    ) (
                    pureP Pg (Instr.fieldAt 75 t19 2) fun t128 =>
                    readP St (loadW Pg 34 t128) fun t129 =>
                    pureP Pg (Instr.fieldAt 70 t11 0) fun t130 =>
                    readP St (loadW Pg 67 t130) fun t131 =>
                    pureP Pg (Instr.indexAt 67 t131 (nthV s76 0)) fun t133 =>
                    pureP Pg (Instr.fieldAt 75 t133 2) fun t134 =>
                    readP St (loadW Pg 34 t134) fun t135 =>
                    pureP Pg (binS .neq 34 t129 t135) fun t136 =>
                    ifV t136 (
                      R (.bool false) w
                      ) (
                      pureP Pg (binS .add 3 (nthV s76 0) (.int .i64 1)) fun t138 =>
                      next76 [t138] w
                      )
                    )
                  )
                ) (
                S Pg (Instr.makeMap 80 none) w fun t139 w =>
                pureP Pg (Builtin.len_ #[63] 3 #[t30]) fun t141 =>
                loopP [(.slice none 0 0), (.int .i64 0), (.int .i64 0)] w fun s105 w next105 => -- t20 t21 t142
                pureP Pg (binS .lss 3 (nthV s105 2) t141) fun t143 =>
                ifV t143 (
                  pureP Pg (Instr.indexAt 63 t30 (nthV s105 2)) fun t144 =>
                  getO (loadW Pg 79 t144 w) fun t145 =>
                  newP (zeroT Pg 79) 79 w fun t24 w =>
                  getU (storeW Pg 79 t24 t145 w) fun w =>
                  pureP Pg (Instr.fieldAt 79 t24 1) fun t147 =>
                  getO (loadW Pg 35 t147 w) fun t148 =>
                  S Pg (Instr.buildSlice 66 1 #[(0, t148)]) w fun t149 w =>
                  S Pg (Builtin.append_ #[66, 66] 66 #[(nthV s105 0), t149]) w fun t150 w =>
                  joinP (fun J118 =>
                    pureP Pg (Instr.fieldAt 79 t24 2) fun t151 =>
                    getO (loadW Pg 3 t151 w) fun t152 =>
                    pureP Pg (binS .eql 3 t152 (.int .i64 1)) fun t153 =>
                    ifV t153 (
                      J118 [(.bool true)] w
                      ) (
                      pureP Pg (Instr.fieldAt 79 t24 0) fun t156 =>
                      getO (loadW Pg 36 t156 w) fun t157 =>
                      pureP Pg (Instr.indexAt 36 t157 (.int .i64 1)) fun t158 =>
                      getO (loadW Pg 5 t158 w) fun t159 =>
                      getO (runR Pg (Instr.lookup 80 t139 t159 false) w) fun t160 =>
                      pureP Pg (binS .gtr 3 t160 (.int .i64 0)) fun t161 =>
                      J118 [t161] w
                      )
                    ) fun s118 w =>
                  ifV (nthV s118 0) (
                    pureP Pg (binS .add 3 (nthV s105 1) (.int .i64 1)) fun t164 =>
                    pureP Pg (Instr.fieldAt 79 t24 0) fun t166 =>
                    getO (loadW Pg 36 t166 w) fun t167 =>
                    pureP Pg (Instr.indexAt 36 t167 (.int .i64 1)) fun t168 =>
                    getO (loadW Pg 5 t168 w) fun t169 =>
                    U Pg (Instr.mapUpdate 80 t139 t169 (.int .i64 1)) w fun w =>
                    pureP Pg (binS .add 3 (nthV s105 2) (.int .i64 1)) fun t170 =>
                    next105 [t150, t164, t170] w
                    ) (
                    pureP Pg (binS .add 3 (nthV s105 2) (.int .i64 1)) fun t170_1 =>
                    next105 [t150, (nthV s105 1), t170_1] w
                    )
                  ) (
                  callV Pg true (Fv 21) #[t30, (nthV s105 0), (.int .i64 4096), (.int .u32 1)] w fun t174 w =>
                  pureP Pg (Instr.extract t174 0) fun t175 =>
                  pureP Pg (Instr.extract t174 1) fun t176 =>
                  newP (zeroT Pg 70) 70 w fun t25 w =>
                  getU (storeW Pg 70 t25 t175 w) fun w =>
                  pureP Pg (binS .eql 30 t176 (.int .i64 0)) fun t178 =>
                  ifV t178 (
                    pureP Pg (Instr.fieldAt 70 t25 0) fun t180 =>
                    getO (loadW Pg 67 t180 w) fun t181 =>
                    pureP Pg (Builtin.len_ #[67] 3 #[t181]) fun t182 =>
                    pureP Pg (binS .eql 3 t182 (nthV s105 1)) fun t184 =>
                    R t184 w
                    ) (
                    R (.bool false) w
                    )
                  )
                )
              )
            )
          )
        )
      )
    )
theorem f6 {a0 a1 : Value} {w : World} {R : Value → World → Prop} (h : F6 a0 a1 w R) : Calls Pg 6 #[a0, a1] w (retK R) :=
  fn_sound (args := [a0, a1]) Try.func6 (by kernel_rfl) (annOf [(8, [7]), (12, [7,35]), (49, [13,75]), (76, [107]), (105, [20,21,142]), (118, [162])]) (of_eq (by kernel_rfl) (by kernel_rfl) h)
theorem c6 {r : Bool} {a0 a1 : Value} {w : World} {K : Value → World → Prop} (h : F6 a0 a1 w K) : callV Pg r (.func (.func 6) #[] #[]) #[a0, a1] w K :=
  call_of Try.func6 (by kernel_rfl) (by kernel_rfl) (by kernel_rfl) (f6 h)

/-- hourbook/hourbooklaw25.PlanKnown -/
def F7 (w : World) (R : Value → World → Prop) : Prop :=
  S Pg (Instr.buildSlice 36 1 #[(0, (.int .u8 107))]) w fun t23 w =>
  S Pg (convert 36 36 t23) w fun t24 w =>
  pureP Pg (Instr.build 79 #[(1, (.int .u64 1)), (2, (.int .i64 1)), (3, (.int .i64 30))]) fun t25 =>
  S Pg (Instr.makeSlice 36 (.int .i64 65) (.int .i64 65)) w fun t26 w =>
  pureP Pg (Instr.build 79 #[(0, t26), (1, (.int .u64 1)), (2, (.int .i64 1)), (3, (.int .i64 30))]) fun t27 =>
  pureP Pg (Instr.build 79 #[(0, t24), (2, (.int .i64 1)), (3, (.int .i64 30))]) fun t29 =>
  pureP Pg (Instr.build 79 #[(0, t24), (1, (.int .u64 1099511627777)), (2, (.int .i64 1)), (3, (.int .i64 30))]) fun t31 =>
  pureP Pg (Instr.build 79 #[(0, t24), (1, (.int .u64 1)), (3, (.int .i64 30))]) fun t33 =>
  pureP Pg (Instr.build 79 #[(0, t24), (1, (.int .u64 1)), (2, (.int .i64 3)), (3, (.int .i64 30))]) fun t35 =>
  pureP Pg (Instr.build 79 #[(0, t24), (1, (.int .u64 1)), (2, (.int .i64 1)), (3, (.int .i64 24))]) fun t37 =>
  pureP Pg (Instr.build 79 #[(0, t24), (1, (.int .u64 1)), (2, (.int .i64 1)), (3, (.int .i64 1114))]) fun t39 =>
  pureP Pg (Instr.build 84 #[(0, t25), (1, t27), (2, t29), (3, t31), (4, t33), (5, t35), (6, t37), (7, t39)]) fun t40 =>
  loopP [(.int .i64 0)] w fun s8 w next8 => -- t41
  pureP Pg (binS .lss 3 (nthV s8 0) (.int .i64 8)) fun t42 =>
  ifV t42 (
    pureP Pg (Instr.index 84 t40 (nthV s8 0)) fun t43 =>
    newP (zeroT Pg 79) 79 w fun t3 w =>
    getU (storeW Pg 79 t3 t43 w) fun w =>
    getO (loadW Pg 79 t3 w) fun t45 =>
    S Pg (Instr.buildSlice 63 1 #[(0, t45)]) w fun t46 w =>
    callV Pg true (Fv 21) #[t46, (.slice none 0 0), (.int .i64 4096), (.int .u32 1)] w fun t47 w =>
    pureP Pg (Instr.extract t47 0) fun t48 =>
    pureP Pg (Instr.extract t47 1) fun t49 =>
    newP (zeroT Pg 70) 70 w fun t4 w =>
    getU (storeW Pg 70 t4 t48 w) fun w =>
    pureP Pg (binS .neq 30 t49 (.int .i64 1)) fun t51 =>
    ifV t51 (
      R (.bool false) w
      ) (
      getO (loadW Pg 79 t3 w) fun t53 =>
      S Pg (Instr.buildSlice 63 1 #[(0, t53)]) w fun t54 w =>
      callV Pg true (Fv 24) #[t54] w fun t55 w =>
      ifV t55 (
        R (.bool false) w
        ) (
        pureP Pg (binS .add 3 (nthV s8 0) (.int .i64 1)) fun t57 =>
        next8 [t57] w
        )
      )
    ) (
    callV Pg true (Fv 21) #[(.slice none 0 0), (.slice none 0 0), (.int .i64 4095), (.int .u32 1)] w fun t59 w =>
    pureP Pg (Instr.extract t59 0) fun t60 =>
    pureP Pg (Instr.extract t59 1) fun t61 =>
    newP (zeroT Pg 70) 70 w fun t6 w =>
    getU (storeW Pg 70 t6 t60 w) fun w =>
    callV Pg true (Fv 21) #[(.slice none 0 0), (.slice none 0 0), (.int .i64 16777217), (.int .u32 1)] w fun t63 w =>
    pureP Pg (Instr.extract t63 0) fun t64 =>
    pureP Pg (Instr.extract t63 1) fun t65 =>
    newP (zeroT Pg 70) 70 w fun t8 w =>
    getU (storeW Pg 70 t8 t64 w) fun w =>
    callV Pg true (Fv 21) #[(.slice none 0 0), (.slice none 0 0), (.int .i64 4096), (.int .u32 0)] w fun t67 w =>
    pureP Pg (Instr.extract t67 0) fun t68 =>
    pureP Pg (Instr.extract t67 1) fun t69 =>
    newP (zeroT Pg 70) 70 w fun t10 w =>
    getU (storeW Pg 70 t10 t68 w) fun w =>
    callV Pg true (Fv 21) #[(.slice none 0 0), (.slice none 0 0), (.int .i64 4096), (.int .u32 16777216)] w fun t71 w =>
    pureP Pg (Instr.extract t71 0) fun t72 =>
    pureP Pg (Instr.extract t71 1) fun t73 =>
    newP (zeroT Pg 70) 70 w fun t12 w =>
    getU (storeW Pg 70 t12 t72 w) fun w =>
    S Pg (Instr.buildSlice 66 1 #[(0, (.int .u64 5))]) w fun t75 w =>
    callV Pg true (Fv 21) #[(.slice none 0 0), t75, (.int .i64 4096), (.int .u32 16777215)] w fun t76 w =>
    pureP Pg (Instr.extract t76 0) fun t77 =>
    pureP Pg (Instr.extract t76 1) fun t78 =>
    newP (zeroT Pg 70) 70 w fun t14 w =>
    getU (storeW Pg 70 t14 t77 w) fun w =>
    callV Pg true (Fv 25) #[] w fun t80 w =>
    S Pg (Instr.buildSlice 66 1 #[(0, (.int .u64 5))]) w fun t81 w =>
    callV Pg true (Fv 21) #[t80, t81, (.int .i64 4096), (.int .u32 16777215)] w fun t82 w =>
    pureP Pg (Instr.extract t82 0) fun t83 =>
    pureP Pg (Instr.extract t82 1) fun t84 =>
    newP (zeroT Pg 70) 70 w fun t16 w =>
    getU (storeW Pg 70 t16 t83 w) fun w =>
    callV Pg true (Fv 25) #[] w fun t86 w =>
    S Pg (Instr.buildSlice 66 1 #[(0, (.int .u64 5))]) w fun t87 w =>
    callV Pg true (Fv 21) #[t86, t87, (.int .i64 4096), (.int .u32 16777214)] w fun t88 w =>
    pureP Pg (Instr.extract t88 0) fun t89 =>
    pureP Pg (Instr.extract t88 1) fun t90 =>
    newP (zeroT Pg 70) 70 w fun t18 w =>
    getU (storeW Pg 70 t18 t89 w) fun w =>
    callV Pg true (Fv 25) #[] w fun t91 w =>
    pureP Pg (Instr.indexAt 63 t91 (.int .i64 1)) fun t93 =>
    pureP Pg (Instr.fieldAt 79 t93 1) fun t94 =>
    getU (storeW Pg 35 t94 (.int .u64 1) w) fun w =>
    callV Pg true (Fv 21) #[t91, (.slice none 0 0), (.int .i64 4096), (.int .u32 1)] w fun t97 w =>
    pureP Pg (Instr.extract t97 0) fun t98 =>
    pureP Pg (Instr.extract t97 1) fun t99 =>
    newP (zeroT Pg 70) 70 w fun t21 w =>
    getU (storeW Pg 70 t21 t98 w) fun w =>
    pureP Pg (binS .eql 30 t61 (.int .i64 1)) fun t102 =>
    ifV t102 (
      pureP Pg (binS .eql 30 t65 (.int .i64 1)) fun t106 =>
      ifV t106 (
        pureP Pg (binS .eql 30 t69 (.int .i64 1)) fun t110 =>
        ifV t110 (
          pureP Pg (binS .eql 30 t73 (.int .i64 1)) fun t114 =>
          ifV t114 (
            pureP Pg (binS .eql 30 t78 (.int .i64 0)) fun t118 =>
            ifV t118 (
              pureP Pg (Instr.fieldAt 70 t14 1) fun t121 =>
              getO (loadW Pg 68 t121 w) fun t122 =>
              pureP Pg (Builtin.len_ #[68] 3 #[t122]) fun t123 =>
              pureP Pg (binS .eql 3 t123 (.int .i64 0)) fun t124 =>
              ifV t124 (
                pureP Pg (binS .eql 30 t84 (.int .i64 7)) fun t128 =>
                ifV t128 (
                  pureP Pg (binS .eql 30 t90 (.int .i64 0)) fun t132 =>
                  ifV t132 (
                    pureP Pg (binS .eql 30 t99 (.int .i64 1)) fun t136 =>
                    ifV t136 (
                      getO (loadW Pg 70 t14 w) fun t139 =>
                      callV Pg true (Fv 26) #[t139] w fun t140 w =>
                      pureP Pg (binS .eql 3 t140 (.int .i64 0)) fun t141 =>
                      ifV t141 (
                        callV Pg true (Fv 24) #[(.slice none 0 0)] w fun t144 w =>
                        ifV t144 (
                          callV Pg true (Fv 22) #[] w fun t147 w =>
                          R t147 w
                          ) (
                          R (.bool false) w
                          )
                        ) (
                        R (.bool false) w
                        )
                      ) (
                      R (.bool false) w
                      )
                    ) (
                    R (.bool false) w
                    )
                  ) (
                  R (.bool false) w
                  )
                ) (
                R (.bool false) w
                )
              ) (
              R (.bool false) w
              )
            ) (
            R (.bool false) w
            )
          ) (
          R (.bool false) w
          )
        ) (
        R (.bool false) w
        )
      ) (
      R (.bool false) w
      )
    )
theorem f7 {w : World} {R : Value → World → Prop} (h : F7 w R) : Calls Pg 7 #[] w (retK R) :=
  fn_sound (args := []) Try.func7 (by kernel_rfl) (annOf [(8, [41])]) (of_eq (by kernel_rfl) (by kernel_rfl) h)
theorem c7 {r : Bool} {w : World} {K : Value → World → Prop} (h : F7 w K) : callV Pg r (.func (.func 7) #[] #[]) #[] w K :=
  call_of Try.func7 (by kernel_rfl) (by kernel_rfl) (by kernel_rfl) (f7 h)

/-- hourbook/hourbooklaw14.ProbeLay -/
def F8 (a0 a1 a2 : Value) (w : World) (R : Value → World → Prop) : Prop :=
  callV Pg true (Fv 27) #[a0] w fun t21 w =>
  pureP Pg (binS .eql 89 t21 (.pointer none)) fun t23 =>
  ifV t23 (
    R (.bool false) w
    ) (
    joinP (fun J12 =>
      loopP [(.int .i64 0)] w fun s16 w next16 => -- t8
      pureP Pg (Builtin.len_ #[88] 3 #[a1]) fun t26 =>
      pureP Pg (binS .lss 3 (nthV s16 0) t26) fun t27 =>
      ifV t27 (
        pureP Pg (binS .lss 3 (nthV s16 0) (.int .i64 100)) fun t30 =>
        ifV t30 (
          ∃ St : World → Prop, St w.drew ∧ drewP w fun w =>
          pureP Pg (Instr.indexAt 88 a1 (nthV s16 0)) fun t37 =>
          readP St (loadW Pg 36 t37) fun t38 =>
          pureP Pg (Instr.indexAt 88 a1 (nthV s16 0)) fun t41 =>
          readP St (loadW Pg 36 t41) fun t42 =>
          pureP Pg (Builtin.len_ #[36] 3 #[t42]) fun t43 =>
          pureP Pg (Builtin.min_ #[3, 3] 3 #[t43, (.int .i64 64)]) fun t44 =>
          pureP Pg (Instr.sliceAt 36 t38 none (some t44) none) fun t45 =>
          pureP Pg (convert 3 35 (nthV s16 0)) fun t47 =>
          callV Pg false (Fv 28) #[t21, t45, t47] w fun _ w =>
          St w ∧ (
            pureP Pg (binS .add 3 (nthV s16 0) (.int .i64 1)) fun t33 =>
            next16 [t33] w
          )
          ) (
          J12 [] w
          )
        ) (
        J12 [] w
        )
      ) fun _ w =>
    joinP (fun J27 =>
      loopP [(.int .i64 0)] w fun s31 w next31 => -- t9
      pureP Pg (Builtin.len_ #[88] 3 #[a1]) fun t51 =>
      pureP Pg (binS .lss 3 (nthV s31 0) t51) fun t52 =>
      ifV t52 (
        pureP Pg (convert 5 3 a2) fun t56 =>
        pureP Pg (binS .rem 3 t56 (.int .i64 100)) fun t57 =>
        pureP Pg (binS .lss 3 (nthV s31 0) t57) fun t58 =>
        ifV t58 (
          ∃ St : World → Prop, St w.drew ∧ drewP w fun w =>
          pureP Pg (Instr.indexAt 88 a1 (nthV s31 0)) fun t65 =>
          readP St (loadW Pg 36 t65) fun t66 =>
          pureP Pg (Instr.indexAt 88 a1 (nthV s31 0)) fun t69 =>
          readP St (loadW Pg 36 t69) fun t70 =>
          pureP Pg (Builtin.len_ #[36] 3 #[t70]) fun t71 =>
          pureP Pg (Builtin.min_ #[3, 3] 3 #[t71, (.int .i64 64)]) fun t72 =>
          pureP Pg (Instr.sliceAt 36 t66 none (some t72) none) fun t73 =>
          callV Pg false (Fv 29) #[t21, t73] w fun _ w =>
          St w ∧ (
            pureP Pg (binS .add 3 (nthV s31 0) (.int .i64 1)) fun t61 =>
            next31 [t61] w
          )
          ) (
          J27 [] w
          )
        ) (
        J27 [] w
        )
      ) fun _ w =>
    callV Pg true (Fv 30) #[t21] w fun t76 w =>
    pureP Pg (Builtin.len_ #[93] 3 #[t76]) fun t78 =>
    joinP (fun J46 =>
      pureP Pg (binS .lss 3 t78 (.int .i64 8)) fun t80 =>
      ifV t80 (
        R (.bool false) w
        ) (
        pureP Pg (binS .sub 3 t78 (.int .i64 1)) fun t84 =>
        pureP Pg (binS .and 3 t78 t84) fun t85 =>
        pureP Pg (binS .neq 3 t85 (.int .i64 0)) fun t86 =>
        ifV t86 (
          R (.bool false) w
          ) (
          callV Pg true (Fv 31) #[t21] w fun t90 w =>
          pureP Pg (binS .mul 3 (.int .i64 4) t90) fun t91 =>
          pureP Pg (binS .mul 3 (.int .i64 3) t78) fun t93 =>
          pureP Pg (binS .gtr 3 t91 t93) fun t94 =>
          ifV t94 (
            R (.bool false) w
            ) (
            pureP Pg (binS .gtr 3 t78 (.int .i64 8)) fun t98 =>
            ifV t98 (
              callV Pg true (Fv 31) #[t21] w fun t101 w =>
              pureP Pg (binS .mul 3 (.int .i64 4) t101) fun t102 =>
              pureP Pg (binS .mul 3 (.int .i64 3) t78) fun t104 =>
              pureP Pg (binS .quo 3 t104 (.int .i64 2)) fun t105 =>
              pureP Pg (binS .leq 3 t102 t105) fun t106 =>
              ifV t106 (
                R (.bool false) w
                ) (
                J46 [] w
                )
              ) (
              J46 [] w
              )
            )
          )
        )
      ) fun _ w =>
    loopP [(.int .i64 0), (.int .i64 0)] w fun s60 w next60 => -- t12 t13
    pureP Pg (binS .lss 3 (nthV s60 1) t78) fun t111 =>
    ifV t111 (
      pureP Pg (Instr.indexAt 93 t76 (nthV s60 1)) fun t116 =>
      getO (loadW Pg 96 t116 w) fun t117 =>
      newP (zeroT Pg 96) 96 w fun t14 w =>
      getU (storeW Pg 96 t14 t117 w) fun w =>
      pureP Pg (Instr.fieldAt 96 t14 0) fun t118 =>
      getO (loadW Pg 4 t118 w) fun t119 =>
      pureP Pg (Op.unary .not t119) fun t120 =>
      ifV t120 (
        pureP Pg (binS .add 3 (nthV s60 1) (.int .i64 1)) fun t113 =>
        next60 [(nthV s60 0), t113] w
        ) (
        pureP Pg (binS .add 3 (nthV s60 0) (.int .i64 1)) fun t122 =>
        pureP Pg (Instr.fieldAt 96 t14 1) fun t124 =>
        getO (loadW Pg 36 t124 w) fun t125 =>
        callV Pg true (Fv 32) #[a0, t125] w fun t126 w =>
        pureP Pg (convert 3 35 t78) fun t128 =>
        pureP Pg (binS .rem 35 t126 t128) fun t129 =>
        pureP Pg (convert 35 3 t129) fun t130 =>
        ∃ St : World → Prop, St w.drew ∧ drewP w fun w =>
        pureP Pg (binS .sub 3 (nthV s60 1) t130) fun t133 =>
        pureP Pg (binS .add 3 t133 t78) fun t135 =>
        pureP Pg (binS .rem 3 t135 t78) fun t137 =>
        pureP Pg (Instr.fieldAt 96 t14 3) fun t138 =>
        readP St (loadW Pg 3 t138) fun t139 =>
        pureP Pg (binS .neq 3 t137 t139) fun t140 =>
        ifV t140 (
          R (.bool false) w
          ) (
          loopP [(.int .i64 0)] w fun s93 w next93 => -- t16
          pureP Pg (Instr.fieldAt 96 t14 3) fun t142 =>
          getO (loadW Pg 3 t142 w) fun t143 =>
          pureP Pg (binS .lss 3 (nthV s93 0) t143) fun t144 =>
          ifV t144 (
            pureP Pg (binS .add 3 t130 (nthV s93 0)) fun t150 =>
            pureP Pg (binS .rem 3 t150 t78) fun t152 =>
            pureP Pg (Instr.indexAt 93 t76 t152) fun t153 =>
            getO (loadW Pg 96 t153 w) fun t154 =>
            newP (zeroT Pg 96) 96 w fun t17 w =>
            getU (storeW Pg 96 t17 t154 w) fun w =>
            pureP Pg (Instr.fieldAt 96 t17 0) fun t155 =>
            getO (loadW Pg 4 t155 w) fun t156 =>
            pureP Pg (Op.unary .not t156) fun t157 =>
            ifV t157 (
              R (.bool false) w
              ) (
              pureP Pg (Instr.fieldAt 96 t17 3) fun t159 =>
              getO (loadW Pg 3 t159 w) fun t160 =>
              pureP Pg (binS .lss 3 t160 (nthV s93 0)) fun t162 =>
              ifV t162 (
                R (.bool false) w
                ) (
                pureP Pg (Instr.fieldAt 96 t17 3) fun t165 =>
                getO (loadW Pg 3 t165 w) fun t166 =>
                pureP Pg (binS .eql 3 t166 (nthV s93 0)) fun t168 =>
                ifV t168 (
                  pureP Pg (Instr.fieldAt 96 t17 1) fun t170 =>
                  getO (loadW Pg 36 t170 w) fun t171 =>
                  pureP Pg (Instr.fieldAt 96 t14 1) fun t172 =>
                  getO (loadW Pg 36 t172 w) fun t173 =>
                  callV Pg true (Fv 33) #[t171, t173] w fun t174 w =>
                  pureP Pg (binS .geq 3 t174 (.int .i64 0)) fun t175 =>
                  ifV t175 (
                    R (.bool false) w
                    ) (
                    pureP Pg (binS .add 3 (nthV s93 0) (.int .i64 1)) fun t146 =>
                    next93 [t146] w
                    )
                  ) (
                  pureP Pg (binS .add 3 (nthV s93 0) (.int .i64 1)) fun t146_1 =>
                  next93 [t146_1] w
                  )
                )
              )
            ) (
            pureP Pg (Instr.fieldAt 96 t14 1) fun t180 =>
            getO (loadW Pg 36 t180 w) fun t181 =>
            callV Pg true (Fv 34) #[t21, t181] w fun t182 w =>
            pureP Pg (Instr.extract t182 0) fun t183 =>
            pureP Pg (Instr.extract t182 1) fun t184 =>
            pureP Pg (Op.unary .not t184) fun t186 =>
            ifV t186 (
              R (.bool false) w
              ) (
              pureP Pg (Instr.fieldAt 96 t14 2) fun t189 =>
              getO (loadW Pg 35 t189 w) fun t190 =>
              pureP Pg (binS .neq 35 t183 t190) fun t191 =>
              ifV t191 (
                R (.bool false) w
                ) (
                pureP Pg (binS .add 3 (nthV s60 1) (.int .i64 1)) fun t113_1 =>
                next60 [t122, t113_1] w
                )
              )
            )
          )
        )
      ) (
      callV Pg true (Fv 31) #[t21] w fun t195 w =>
      pureP Pg (binS .eql 3 (nthV s60 0) t195) fun t196 =>
      ifV t196 (
        callV Pg true (Fv 35) #[] w fun t198 w =>
        R t198 w
        ) (
        R (.bool false) w
        )
      )
    )
theorem f8 {a0 a1 a2 : Value} {w : World} {R : Value → World → Prop} (h : F8 a0 a1 a2 w R) : Calls Pg 8 #[a0, a1, a2] w (retK R) :=
  fn_sound (args := [a0, a1, a2]) Try.func8 (by kernel_rfl) (annOf [(12, []), (16, [8]), (27, []), (31, [9]), (46, []), (60, [12,13]), (93, [16])]) (of_eq (by kernel_rfl) (by kernel_rfl) h)
theorem c8 {r : Bool} {a0 a1 a2 : Value} {w : World} {K : Value → World → Prop} (h : F8 a0 a1 a2 w K) : callV Pg r (.func (.func 8) #[] #[]) #[a0, a1, a2] w K :=
  call_of Try.func8 (by kernel_rfl) (by kernel_rfl) (by kernel_rfl) (f8 h)

/-- hourbook/hourbooklaw25.PlanTells -/
def F9 (a0 a1 : Value) (w : World) (R : Value → World → Prop) : Prop :=
  newP (some a1) 103 w fun t3 w =>
  ∃ St : World → Prop, St w.drew ∧ drewP w fun w =>
  pureP Pg (Instr.fieldAt 103 t3 0) fun t21 =>
  readP St (loadW Pg 66 t21) fun t22 =>
  pureP Pg (Instr.fieldAt 103 t3 0) fun t23 =>
  readP St (loadW Pg 66 t23) fun t24 =>
  pureP Pg (Builtin.len_ #[66] 3 #[t24]) fun t25 =>
  pureP Pg (Builtin.min_ #[3, 3] 3 #[t25, (.int .i64 20)]) fun t26 =>
  pureP Pg (Instr.sliceAt 66 t22 none (some t26) none) fun t27 =>
  callV Pg false (Fv 36) #[a0] w fun t20 w =>
  St w ∧ (
    pureP Pg (Instr.fieldAt 103 t3 0) fun t28 =>
    getU (storeW Pg 66 t28 t27 w) fun w =>
    pureP Pg (Builtin.len_ #[63] 3 #[t20]) fun t30 =>
    loopP [(.slice none 0 0), (.int .i64 0)] w fun s10 w next10 => -- t5 t31
    pureP Pg (binS .lss 3 (nthV s10 1) t30) fun t32 =>
    ifV t32 (
      pureP Pg (Instr.indexAt 63 t20 (nthV s10 1)) fun t33 =>
      getO (loadW Pg 79 t33 w) fun t34 =>
      newP (zeroT Pg 79) 79 w fun t7 w =>
      getU (storeW Pg 79 t7 t34 w) fun w =>
      ∃ St : World → Prop, St w.drew ∧ drewP w fun w =>
      pureP Pg (Instr.fieldAt 79 t7 0) fun t36 =>
      readP St (loadW Pg 36 t36) fun t37 =>
      pureP Pg (Instr.fieldAt 79 t7 1) fun t39 =>
      readP St (loadW Pg 35 t39) fun t40 =>
      pureP Pg (Instr.fieldAt 79 t7 2) fun t41 =>
      readP St (loadW Pg 3 t41) fun t42 =>
      pureP Pg (Instr.fieldAt 79 t7 3) fun t43 =>
      readP St (loadW Pg 3 t43) fun t44 =>
      callV Pg false (Fv 37) #[t37] w fun t38 w =>
      St w ∧ (
        pureP Pg (Instr.build 107 #[(0, t38), (1, t40), (2, t42), (3, t44)]) fun t45 =>
        S Pg (Instr.buildSlice 105 1 #[(0, t45)]) w fun t46 w =>
        St w ∧ (
          S Pg (Builtin.append_ #[105, 105] 105 #[(nthV s10 0), t46]) w fun t47 w =>
          St w ∧ (
            pureP Pg (binS .add 3 (nthV s10 1) (.int .i64 1)) fun t48 =>
            next10 [t47, t48] w
          )
        )
      )
      ) (
      pureP Pg (Instr.fieldAt 103 t3 0) fun t49 =>
      getO (loadW Pg 66 t49 w) fun t50 =>
      callV Pg true (Fv 38) #[t50] w fun t51 w =>
      pureP Pg (Instr.fieldAt 103 t3 1) fun t55 =>
      getO (loadW Pg 3 t55 w) fun t56 =>
      pureP Pg (Instr.fieldAt 103 t3 2) fun t57 =>
      getO (loadW Pg 32 t57 w) fun t58 =>
      callV Pg true (Fv 21) #[t20, t51, t56, t58] w fun t59 w =>
      pureP Pg (Instr.extract t59 0) fun t60 =>
      pureP Pg (Instr.extract t59 1) fun t61 =>
      newP (zeroT Pg 70) 70 w fun t9 w =>
      getU (storeW Pg 70 t9 t60 w) fun w =>
      pureP Pg (Instr.fieldAt 103 t3 0) fun t64 =>
      getO (loadW Pg 66 t64 w) fun t65 =>
      pureP Pg (Instr.fieldAt 103 t3 1) fun t66 =>
      getO (loadW Pg 3 t66 w) fun t67 =>
      pureP Pg (Instr.fieldAt 103 t3 2) fun t68 =>
      getO (loadW Pg 32 t68 w) fun t69 =>
      callV Pg true (Fv 39) #[(nthV s10 0), t65, t67, t69] w fun t70 w =>
      pureP Pg (Instr.extract t70 0) fun t71 =>
      pureP Pg (Instr.extract t70 1) fun t72 =>
      newP (zeroT Pg 111) 111 w fun t11 w =>
      getU (storeW Pg 111 t11 t71 w) fun w =>
      callV Pg true (Fv 22) #[] w fun t73 w =>
      pureP Pg (Op.unary .not t73) fun t74 =>
      ifV t74 (
        R (.bool false) w
        ) (
        pureP Pg (binS .neq 3 t61 t72) fun t78 =>
        ifV t78 (
          R (.bool false) w
          ) (
          pureP Pg (Instr.fieldAt 70 t9 0) fun t81 =>
          getO (loadW Pg 67 t81 w) fun t82 =>
          pureP Pg (Builtin.len_ #[67] 3 #[t82]) fun t83 =>
          pureP Pg (Instr.fieldAt 111 t11 0) fun t84 =>
          getO (loadW Pg 109 t84 w) fun t85 =>
          pureP Pg (Builtin.len_ #[109] 3 #[t85]) fun t86 =>
          pureP Pg (binS .neq 3 t83 t86) fun t87 =>
          ifV t87 (
            R (.bool false) w
            ) (
            pureP Pg (Instr.fieldAt 70 t9 1) fun t90 =>
            getO (loadW Pg 68 t90 w) fun t91 =>
            pureP Pg (Instr.fieldAt 111 t11 1) fun t92 =>
            getO (loadW Pg 68 t92 w) fun t93 =>
            callV Pg true (Fv 40) #[t91, t93] w fun t94 w =>
            pureP Pg (Op.unary .not t94) fun t95 =>
            ifV t95 (
              R (.bool false) w
              ) (
              callV Pg true (Fv 24) #[t20] w fun t99 w =>
              callV Pg true (Fv 41) #[(nthV s10 0)] w fun t101 w =>
              pureP Pg (binS .neq 4 t99 t101) fun t102 =>
              ifV t102 (
                R (.bool false) w
                ) (
                pureP Pg (Instr.fieldAt 103 t3 0) fun t106 =>
                getO (loadW Pg 66 t106 w) fun t107 =>
                callV Pg true (Fv 42) #[t51, t107] w fun t108 w =>
                pureP Pg (Op.unary .not t108) fun t109 =>
                ifV t109 (
                  R (.bool false) w
                  ) (
                  pureP Pg (Instr.fieldAt 70 t9 0) fun t111 =>
                  getO (loadW Pg 67 t111 w) fun t112 =>
                  pureP Pg (Builtin.len_ #[67] 3 #[t112]) fun t113 =>
                  loopP [(.int .i64 0)] w fun s43 w next43 => -- t114
                  pureP Pg (binS .lss 3 (nthV s43 0) t113) fun t115 =>
                  ifV t115 (
                    pureP Pg (Instr.indexAt 67 t112 (nthV s43 0)) fun t117 =>
                    getO (loadW Pg 75 t117 w) fun t118 =>
                    newP (zeroT Pg 75) 75 w fun t15 w =>
                    getU (storeW Pg 75 t15 t118 w) fun w =>
                    ∃ St : World → Prop, St w.drew ∧ drewP w fun w =>
                    readP St (loadW Pg 75 t15) fun t119 =>
                    pureP Pg (Instr.fieldAt 111 t11 0) fun t120 =>
                    readP St (loadW Pg 109 t120) fun t121 =>
                    pureP Pg (Instr.indexAt 109 t121 (nthV s43 0)) fun t123 =>
                    readP St (loadW Pg 119 t123) fun t124 =>
                    pureP Pg (binS .neq 119 t119 t124) fun t125 =>
                    ifV t125 (
                      R (.bool false) w
                      ) (
                      pureP Pg (binS .add 3 (nthV s43 0) (.int .i64 1)) fun t126 =>
                      next43 [t126] w
                      )
                    ) (
                    pureP Pg (Instr.fieldAt 111 t11 1) fun t127 =>
                    getO (loadW Pg 68 t127 w) fun t128 =>
                    pureP Pg (Builtin.len_ #[68] 3 #[t128]) fun t129 =>
                    loopP [(.int .i64 0), (.int .i64 0)] w fun s66 w next66 => -- t13 t130
                    pureP Pg (binS .lss 3 (nthV s66 1) t129) fun t131 =>
                    ifV t131 (
                      pureP Pg (Instr.indexAt 68 t128 (nthV s66 1)) fun t132 =>
                      getO (loadW Pg 116 t132 w) fun t133 =>
                      newP (zeroT Pg 116) 116 w fun t17 w =>
                      getU (storeW Pg 116 t17 t133 w) fun w =>
                      pureP Pg (Instr.fieldAt 116 t17 1) fun t135 =>
                      getO (loadW Pg 32 t135 w) fun t136 =>
                      pureP Pg (convert 32 3 t136) fun t137 =>
                      pureP Pg (binS .add 3 (nthV s66 0) t137) fun t138 =>
                      pureP Pg (binS .add 3 (nthV s66 1) (.int .i64 1)) fun t139 =>
                      next66 [t138, t139] w
                      ) (
                      pureP Pg (Builtin.len_ #[63] 3 #[t20]) fun t141 =>
                      loopP [(.int .i64 0)] w fun s83 w next83 => -- t142
                      pureP Pg (binS .lss 3 (nthV s83 0) t141) fun t143 =>
                      ifV t143 (
                        ∃ St : World → Prop, St w.drew ∧ drewP w fun w =>
                        pureP Pg (Instr.indexAt 63 t20 (nthV s83 0)) fun t147 =>
                        pureP Pg (Instr.fieldAt 79 t147 0) fun t148 =>
                        readP St (loadW Pg 36 t148) fun t149 =>
                        pureP Pg (Instr.indexAt 105 (nthV s10 0) (nthV s83 0)) fun t152 =>
                        pureP Pg (Instr.fieldAt 107 t152 0) fun t153 =>
                        readP St (loadW Pg 36 t153) fun t154 =>
                        callV Pg false (Fv 43) #[t149, t154] w fun t155 w =>
                        pureP Pg (Op.unary .not t155) fun t156 =>
                        ifV t156 (
                          R (.bool false) w
                          ) (
                          pureP Pg (binS .add 3 (nthV s83 0) (.int .i64 1)) fun t157 =>
                          next83 [t157] w
                          )
                        ) (
                        getO (loadW Pg 70 t9 w) fun t158 =>
                        callV Pg true (Fv 26) #[t158] w fun t159 w =>
                        pureP Pg (binS .eql 3 t159 (nthV s66 0)) fun t161 =>
                        R t161 w
                        )
                      )
                    )
                  )
                )
              )
            )
          )
        )
      )
  )
theorem f9 {a0 a1 : Value} {w : World} {R : Value → World → Prop} (h : F9 a0 a1 w R) : Calls Pg 9 #[a0, a1] w (retK R) :=
  fn_sound (args := [a0, a1]) Try.func9 (by kernel_rfl) (annOf [(10, [5,31]), (43, [114]), (66, [13,130]), (83, [142])]) (of_eq (by kernel_rfl) (by kernel_rfl) h)
theorem c9 {r : Bool} {a0 a1 : Value} {w : World} {K : Value → World → Prop} (h : F9 a0 a1 w K) : callV Pg r (.func (.func 9) #[] #[]) #[a0, a1] w K :=
  call_of Try.func9 (by kernel_rfl) (by kernel_rfl) (by kernel_rfl) (f9 h)

/-- hourbook/hourbooklaw18.rows -/
def F10 (a0 : Value) (w : World) (R : Value → World → Prop) : Prop :=
  S Pg (Instr.makeMap 24 none) w fun t11 w =>
  loopP [(.slice none 0 0), (.int .u64 0), (.int .i64 0)] w fun s12 w next12 => -- t4 t6 t7
  pureP Pg (Builtin.len_ #[22] 3 #[a0]) fun t14 =>
  pureP Pg (binS .lss 3 (nthV s12 2) t14) fun t15 =>
  ifV t15 (
    pureP Pg (binS .lss 3 (nthV s12 2) (.int .i64 60)) fun t18 =>
    ifV t18 (
      pureP Pg (Instr.indexAt 22 a0 (nthV s12 2)) fun t25 =>
      pureP Pg (Instr.fieldAt 123 t25 1) fun t26 =>
      getO (loadW Pg 5 t26 w) fun t27 =>
      pureP Pg (convert 5 35 t27) fun t28 =>
      pureP Pg (binS .add 35 (.int .u64 1) t28) fun t29 =>
      pureP Pg (binS .add 35 (nthV s12 1) t29) fun t30 =>
      pureP Pg (Instr.indexAt 22 a0 (nthV s12 2)) fun t33 =>
      pureP Pg (Instr.fieldAt 123 t33 0) fun t34 =>
      getO (loadW Pg 5 t34 w) fun t35 =>
      pureP Pg (binS .rem 5 t35 (.int .u8 8)) fun t36 =>
      pureP Pg (binS .add 5 (.int .u8 97) t36) fun t37 =>
      S Pg (Instr.buildSlice 36 1 #[(0, t37)]) w fun t40 w =>
      getO (runR Pg (convert 36 9 t40) w) fun t41 =>
      pureP Pg (Instr.build 34 #[]) fun t42 =>
      callV Pg true (Fv 44) #[t30, t41, (.int .u32 16), t42] w fun t43 w =>
      newP (zeroT Pg 40) 40 w fun t9 w =>
      getU (storeW Pg 40 t9 t43 w) fun w =>
      pureP Pg (convert 3 32 (nthV s12 2)) fun t45 =>
      pureP Pg (binS .quo 32 t45 (.int .u32 10)) fun t46 =>
      pureP Pg (binS .add 32 (.int .u32 1) t46) fun t47 =>
      pureP Pg (binS .rem 3 (nthV s12 2) (.int .i64 10)) fun t49 =>
      pureP Pg (convert 3 32 t49) fun t50 =>
      pureP Pg (binS .mul 32 t50 (.int .u32 30)) fun t51 =>
      pureP Pg (binS .add 32 (.int .u32 16) t51) fun t52 =>
      pureP Pg (Instr.build 34 #[(0, t47), (1, t52)]) fun t53 =>
      pureP Pg (Instr.fieldAt 40 t9 0) fun t54 =>
      getU (storeW Pg 34 t54 t53 w) fun w =>
      joinP (fun J29 =>
        pureP Pg (Instr.indexAt 22 a0 (nthV s12 2)) fun t57 =>
        pureP Pg (Instr.fieldAt 123 t57 2) fun t58 =>
        getO (loadW Pg 4 t58 w) fun t59 =>
        ifV t59 (
          pureP Pg (Instr.fieldAt 40 t9 2) fun t60 =>
          pureP Pg (Instr.fieldAt 38 t60 1) fun t61 =>
          getU (storeW Pg 3 t61 (.int .i64 2) w) fun w =>
          J29 [] w
          ) (
          J29 [] w
          )
        ) fun _ w =>
      joinP (fun J35 =>
        getO (runR Pg (Instr.lookup 24 t11 t37 false) w) fun t64 =>
        pureP Pg (Builtin.len_ #[47] 3 #[t64]) fun t65 =>
        pureP Pg (binS .gtr 3 t65 (.int .i64 0)) fun t67 =>
        ifV t67 (
          getO (runR Pg (Instr.lookup 24 t11 t37 false) w) fun t70 =>
          pureP Pg (binS .sub 3 t65 (.int .i64 1)) fun t72 =>
          pureP Pg (Instr.indexAt 47 t70 t72) fun t73 =>
          getO (loadW Pg 34 t73 w) fun t74 =>
          pureP Pg (Instr.fieldAt 40 t9 2) fun t75 =>
          pureP Pg (Instr.fieldAt 38 t75 4) fun t76 =>
          getU (storeW Pg 34 t76 t74 w) fun w =>
          J35 [] w
          ) (
          J35 [] w
          )
        ) fun _ w =>
      getO (runR Pg (Instr.lookup 24 t11 t37 false) w) fun t81 =>
      pureP Pg (Instr.fieldAt 40 t9 0) fun t82 =>
      getO (loadW Pg 34 t82 w) fun t83 =>
      S Pg (Instr.buildSlice 47 1 #[(0, t83)]) w fun t84 w =>
      S Pg (Builtin.append_ #[47, 47] 47 #[t81, t84]) w fun t85 w =>
      U Pg (Instr.mapUpdate 24 t11 t37 t85) w fun w =>
      getO (loadW Pg 40 t9 w) fun t87 =>
      S Pg (Instr.buildSlice 23 1 #[(0, t87)]) w fun t88 w =>
      S Pg (Builtin.append_ #[23, 23] 23 #[(nthV s12 0), t88]) w fun t89 w =>
      pureP Pg (binS .add 3 (nthV s12 2) (.int .i64 1)) fun t21 =>
      next12 [t89, t30, t21] w
      ) (
      R (.tuple #[(nthV s12 0), t11]) w
      )
    ) (
    R (.tuple #[(nthV s12 0), t11]) w
    )
theorem f10 {a0 : Value} {w : World} {R : Value → World → Prop} (h : F10 a0 w R) : Calls Pg 10 #[a0] w (retK R) :=
  fn_sound (args := [a0]) Try.func10 (by kernel_rfl) (annOf [(12, [4,6,7]), (29, []), (35, [])]) (of_eq (by kernel_rfl) (by kernel_rfl) h)
theorem c10 {r : Bool} {a0 : Value} {w : World} {K : Value → World → Prop} (h : F10 a0 w K) : callV Pg r (.func (.func 10) #[] #[]) #[a0] w K :=
  call_of Try.func10 (by kernel_rfl) (by kernel_rfl) (by kernel_rfl) (f10 h)

/-- hourbook/link.New -/
def F11 (w : World) (R : Value → World → Prop) : Prop :=
  S Pg (Instr.makeMap 125 none) w fun t1 w =>
  S Pg (Instr.makeMap 126 none) w fun t2 w =>
  pureP Pg (Instr.build 128 #[(0, t1), (1, t2)]) fun t3 =>
  newP (some t3) 128 w fun t4 w =>
  R t4 w
theorem f11 {w : World} {R : Value → World → Prop} (h : F11 w R) : Calls Pg 11 #[] w (retK R) :=
  fn_sound (args := []) Try.func11 (by kernel_rfl) (fun _ => none) (of_eq (by kernel_rfl) (by kernel_rfl) h)
theorem c11 {r : Bool} {w : World} {K : Value → World → Prop} (h : F11 w K) : callV Pg r (.func (.func 11) #[] #[]) #[] w K :=
  call_of Try.func11 (by kernel_rfl) (by kernel_rfl) (by kernel_rfl) (f11 h)

/-- (*hourbook/link.Links).Add -/
def F12 (a0 a1 : Value) (w : World) (R : Value → World → Prop) : Prop :=
  newP (some a1) 40 w fun t3 w =>
  callV Pg true (Fv 45) #[a0] w fun t11 w =>
  ifV t11 (
    R (.int .i64 2) w
    ) (
    pureP Pg (Instr.fieldAt 40 t3 2) fun t12 =>
    getO (loadW Pg 38 t12 w) fun t13 =>
    newP (zeroT Pg 38) 38 w fun t5 w =>
    getU (storeW Pg 38 t5 t13 w) fun w =>
    ∃ St : World → Prop, St w.drew ∧ drewP w fun w =>
    readP St (loadW Pg 38 t5) fun t14 =>
    callV Pg false (Fv 46) #[t14] w fun t15 w =>
    St w ∧ (
      pureP Pg (Op.unary .not t15) fun t16 =>
      ifV t16 (
        R (.int .i64 1) w
        ) (
        pureP Pg (Instr.fieldAt 38 t5 0) fun t18 =>
        readP St (loadW Pg 35 t18) fun t19 =>
        pureP Pg (nilS a0) fun t21 =>
        pureP Pg (Instr.fieldAt 128 t21 3) fun t22 =>
        readP St (loadW Pg 35 t22) fun t23 =>
        pureP Pg (binS .leq 35 t19 t23) fun t24 =>
        ifV t24 (
          R (.int .i64 1) w
          ) (
          pureP Pg (Instr.fieldAt 40 t3 0) fun t27 =>
          readP St (loadW Pg 34 t27) fun t28 =>
          callV Pg false (Fv 47) #[t28] w fun t29 w =>
          St w ∧ (
            pureP Pg (Op.unary .not t29) fun t30 =>
            ifV t30 (
              R (.int .i64 1) w
              ) (
              pureP Pg (Instr.fieldAt 40 t3 0) fun t33 =>
              readP St (loadW Pg 34 t33) fun t34 =>
              callV Pg false (Fv 48) #[t34] w fun t35 w =>
              St w ∧ (
                ifV t35 (
                  R (.int .i64 1) w
                  ) (
                  ∃ St : World → Prop, St w.drew ∧ drewP w fun w =>
                  pureP Pg (nilS a0) fun t39 =>
                  pureP Pg (Instr.fieldAt 128 t39 1) fun t40 =>
                  readP St (loadW Pg 126 t40) fun t41 =>
                  pureP Pg (Instr.fieldAt 40 t3 0) fun t42 =>
                  readP St (loadW Pg 34 t42) fun t43 =>
                  readP St (runR Pg (Instr.lookup 126 t41 t43 true)) fun t44 =>
                  pureP Pg (Instr.extract t44 0) fun t45 =>
                  pureP Pg (Instr.extract t44 1) fun t46 =>
                  newP (zeroT Pg 34) 34 w fun t6 w =>
                  St w ∧ (
                    getU (storeW Pg 34 t6 t45 w) fun w =>
                    ifV t46 (
                      R (.int .i64 9) w
                      ) (
                      pureP Pg (Instr.fieldAt 38 t5 2) fun t48 =>
                      getO (loadW Pg 36 t48 w) fun t49 =>
                      callV Pg true (Fv 49) #[t49] w fun t50 w =>
                      newP (zeroT Pg 133) 133 w fun t8 w =>
                      getU (storeW Pg 133 t8 t50 w) fun w =>
                      ∃ St : World → Prop, St w.drew ∧ drewP w fun w =>
                      pureP Pg (nilS a0) fun t52 =>
                      pureP Pg (Instr.fieldAt 128 t52 0) fun t53 =>
                      readP St (loadW Pg 125 t53) fun t54 =>
                      readP St (loadW Pg 133 t8) fun t55 =>
                      readP St (runR Pg (Instr.lookup 125 t54 t55 false)) fun t56 =>
                      pureP Pg (Instr.field 42 t56 0) fun t57 =>
                      newP (zeroT Pg 34) 34 w fun t9 w =>
                      St w ∧ (
                        getU (storeW Pg 34 t9 t57 w) fun w =>
                        joinP (fun J34 =>
                          getO (loadW Pg 34 t9 w) fun t58 =>
                          pureP Pg (Instr.fieldAt 38 t5 4) fun t59 =>
                          getO (loadW Pg 34 t59 w) fun t60 =>
                          pureP Pg (binS .neq 34 t58 t60) fun t61 =>
                          ifV t61 (
                            ∃ St : World → Prop, St w.drew ∧ drewP w fun w =>
                            pureP Pg (nilS a0) fun t64 =>
                            pureP Pg (Instr.fieldAt 128 t64 2) fun t65 =>
                            readP St (loadW Pg 47 t65) fun t66 =>
                            pureP Pg (Instr.fieldAt 40 t3 0) fun t67 =>
                            readP St (loadW Pg 34 t67) fun t68 =>
                            S Pg (Instr.buildSlice 47 1 #[(0, t68)]) w fun t69 w =>
                            St w ∧ (
                              S Pg (Builtin.append_ #[47, 47] 47 #[t66, t69]) w fun t70 w =>
                              St w ∧ (
                                pureP Pg (nilS a0) fun t71 =>
                                pureP Pg (Instr.fieldAt 128 t71 2) fun t72 =>
                                getU (storeW Pg 47 t72 t70 w) fun w =>
                                J34 [] w
                              )
                            )
                            ) (
                            J34 [] w
                            )
                          ) fun _ w =>
                        ∃ St : World → Prop, St w.drew ∧ drewP w fun w =>
                        pureP Pg (nilS a0) fun t74 =>
                        pureP Pg (Instr.fieldAt 128 t74 1) fun t75 =>
                        readP St (loadW Pg 126 t75) fun t76 =>
                        pureP Pg (Instr.fieldAt 40 t3 0) fun t77 =>
                        readP St (loadW Pg 34 t77) fun t78 =>
                        readP St (loadW Pg 34 t9) fun t79 =>
                        U Pg (Instr.mapUpdate 126 t76 t78 t79) w fun w =>
                        ∃ St : World → Prop, St w.drew ∧ drewP w fun w =>
                        pureP Pg (nilS a0) fun t81 =>
                        pureP Pg (Instr.fieldAt 128 t81 0) fun t82 =>
                        readP St (loadW Pg 125 t82) fun t83 =>
                        readP St (loadW Pg 133 t8) fun t84 =>
                        pureP Pg (Instr.fieldAt 40 t3 0) fun t85 =>
                        readP St (loadW Pg 34 t85) fun t86 =>
                        pureP Pg (Instr.fieldAt 38 t5 0) fun t87 =>
                        readP St (loadW Pg 35 t87) fun t88 =>
                        pureP Pg (Instr.fieldAt 38 t5 1) fun t89 =>
                        readP St (loadW Pg 3 t89) fun t90 =>
                        pureP Pg (Instr.build 42 #[(0, t86), (1, t88), (2, t90)]) fun t91 =>
                        U Pg (Instr.mapUpdate 125 t83 t84 t91) w fun w =>
                        pureP Pg (Instr.fieldAt 38 t5 0) fun t93 =>
                        getO (loadW Pg 35 t93 w) fun t94 =>
                        pureP Pg (nilS a0) fun t95 =>
                        pureP Pg (Instr.fieldAt 128 t95 3) fun t96 =>
                        getU (storeW Pg 35 t96 t94 w) fun w =>
                        R (.int .i64 0) w
                      )
                      )
                  )
                  )
              )
              )
          )
          )
        )
    )
    )
theorem f12 {a0 a1 : Value} {w : World} {R : Value → World → Prop} (h : F12 a0 a1 w R) : Calls Pg 12 #[a0, a1] w (retK R) :=
  fn_sound (args := [a0, a1]) Try.func12 (by kernel_rfl) (annOf [(34, [])]) (of_eq (by kernel_rfl) (by kernel_rfl) h)
theorem c12 {r : Bool} {a0 a1 : Value} {w : World} {K : Value → World → Prop} (h : F12 a0 a1 w K) : callV Pg r (.func (.func 12) #[] #[]) #[a0, a1] w K :=
  call_of Try.func12 (by kernel_rfl) (by kernel_rfl) (by kernel_rfl) (f12 h)

/-- (*hourbook/link.Links).Head -/
def F13 (a0 a1 : Value) (w : World) (R : Value → World → Prop) : Prop :=
  newP (zeroT Pg 42) 42 w fun t4 w =>
  callV Pg true (Fv 45) #[a0] w fun t9 w =>
  ifV t9 (
    pureP Pg (Instr.build 42 #[]) fun t15 =>
    getU (storeW Pg 42 t4 t15 w) fun w =>
    readW Pg (Instr.loadAt 42 t4) w fun r0 =>
    R (.tuple #[r0, (.bool false)]) w
    ) (
    callV Pg true (Fv 50) #[a1] w fun t12 w =>
    pureP Pg (Op.unary .not t12) fun t13 =>
    ifV t13 (
      pureP Pg (Instr.build 42 #[]) fun t15_1 =>
      getU (storeW Pg 42 t4 t15_1 w) fun w =>
      readW Pg (Instr.loadAt 42 t4) w fun r0 =>
      R (.tuple #[r0, (.bool false)]) w
      ) (
      ∃ St : World → Prop, St w.drew ∧ drewP w fun w =>
      pureP Pg (nilS a0) fun t18 =>
      pureP Pg (Instr.fieldAt 128 t18 0) fun t19 =>
      readP St (loadW Pg 125 t19) fun t20 =>
      (
        callV Pg false (Fv 49) #[a1] w fun t22 w =>
        St w ∧ (
          readP St (runR Pg (Instr.lookup 125 t20 t22 true)) fun t23 =>
          pureP Pg (Instr.extract t23 0) fun t24 =>
          pureP Pg (Instr.extract t23 1) fun t25 =>
          newP (zeroT Pg 42) 42 w fun t6 w =>
          St w ∧ (
            getU (storeW Pg 42 t6 t24 w) fun w =>
            getO (loadW Pg 42 t6 w) fun t26 =>
            getU (storeW Pg 42 t4 t26 w) fun w =>
            readW Pg (Instr.loadAt 42 t4) w fun r0 =>
            R (.tuple #[r0, t25]) w
          )
        )
      ) ∧
      (
        newP (zeroT Pg 42) 42 w fun t6_1 w =>
        St w ∧ (
          callV Pg false (Fv 49) #[a1] w fun t22_1 w =>
          St w ∧ (
            readP St (runR Pg (Instr.lookup 125 t20 t22_1 true)) fun t23_1 =>
            pureP Pg (Instr.extract t23_1 0) fun t24_1 =>
            pureP Pg (Instr.extract t23_1 1) fun t25_1 =>
            getU (storeW Pg 42 t6_1 t24_1 w) fun w =>
            getO (loadW Pg 42 t6_1 w) fun t26_1 =>
            getU (storeW Pg 42 t4 t26_1 w) fun w =>
            readW Pg (Instr.loadAt 42 t4) w fun r0 =>
            R (.tuple #[r0, t25_1]) w
          )
        )
      )
      )
    )
theorem f13 {a0 a1 : Value} {w : World} {R : Value → World → Prop} (h : F13 a0 a1 w R) : Calls Pg 13 #[a0, a1] w (retK R) :=
  fn_sound (args := [a0, a1]) Try.func13 (by kernel_rfl) (fun _ => none) (of_eq (by kernel_rfl) (by kernel_rfl) h)
theorem c13 {r : Bool} {a0 a1 : Value} {w : World} {K : Value → World → Prop} (h : F13 a0 a1 w K) : callV Pg r (.func (.func 13) #[] #[]) #[a0, a1] w K :=
  call_of Try.func13 (by kernel_rfl) (by kernel_rfl) (by kernel_rfl) (f13 h)

/-- (*hourbook/link.Links).Len -/
def F14 (a0 : Value) (w : World) (R : Value → World → Prop) : Prop :=
  callV Pg true (Fv 45) #[a0] w fun t4 w =>
  ifV t4 (
    R (.int .i64 0) w
    ) (
    pureP Pg (nilS a0) fun t6 =>
    pureP Pg (Instr.fieldAt 128 t6 1) fun t7 =>
    getO (loadW Pg 126 t7 w) fun t8 =>
    getO (runR Pg (Builtin.len_ #[126] 3 #[t8]) w) fun t9 =>
    R t9 w
    )
theorem f14 {a0 : Value} {w : World} {R : Value → World → Prop} (h : F14 a0 w R) : Calls Pg 14 #[a0] w (retK R) :=
  fn_sound (args := [a0]) Try.func14 (by kernel_rfl) (fun _ => none) (of_eq (by kernel_rfl) (by kernel_rfl) h)
theorem c14 {r : Bool} {a0 : Value} {w : World} {K : Value → World → Prop} (h : F14 a0 w K) : callV Pg r (.func (.func 14) #[] #[]) #[a0] w K :=
  call_of Try.func14 (by kernel_rfl) (by kernel_rfl) (by kernel_rfl) (f14 h)

/-- (*hourbook/link.Links).Wrong -/
def F15 (a0 : Value) (w : World) (R : Value → World → Prop) : Prop :=
  callV Pg true (Fv 45) #[a0] w fun t4 w =>
  ifV t4 (
    R (.slice none 0 0) w
    ) (
    pureP Pg (nilS a0) fun t6 =>
    pureP Pg (Instr.fieldAt 128 t6 2) fun t7 =>
    getO (loadW Pg 47 t7 w) fun t8 =>
    callV Pg true (Fv 51) #[t8] w fun t9 w =>
    R t9 w
    )
theorem f15 {a0 : Value} {w : World} {R : Value → World → Prop} (h : F15 a0 w R) : Calls Pg 15 #[a0] w (retK R) :=
  fn_sound (args := [a0]) Try.func15 (by kernel_rfl) (fun _ => none) (of_eq (by kernel_rfl) (by kernel_rfl) h)
theorem c15 {r : Bool} {a0 : Value} {w : World} {K : Value → World → Prop} (h : F15 a0 w K) : callV Pg r (.func (.func 15) #[] #[]) #[a0] w K :=
  call_of Try.func15 (by kernel_rfl) (by kernel_rfl) (by kernel_rfl) (f15 h)

/-- hourbook/hourbooklaw18.knows -/
def F16 (w : World) (R : Value → World → Prop) : Prop :=
  callV Pg true (Fv 11) #[] w fun t11 w =>
  callV Pg true (Fv 11) #[] w fun t12 w =>
  pureP Pg (Instr.build 137 #[(0, t11), (1, t12)]) fun t15 =>
  loopP [(.int .i64 0)] w fun s8 w next8 => -- t16
  pureP Pg (binS .lss 3 (nthV s8 0) (.int .i64 2)) fun t17 =>
  ifV t17 (
    pureP Pg (Instr.index 137 t15 (nthV s8 0)) fun t19 =>
    pureP Pg (Instr.build 34 #[]) fun t20 =>
    newP (zeroT Pg 34) 34 w fun t5 w =>
    getU (storeW Pg 34 t5 t20 w) fun w =>
    joinP (fun J21 =>
      pureP Pg (binS .eql 3 (nthV s8 0) (.int .i64 0)) fun t22 =>
      ifV t22 (
        callV Pg true (Fv 52) #[(.int .u32 16)] w fun t23 w =>
        getU (storeW Pg 34 t5 t23 w) fun w =>
        J21 [] w
        ) (
        J21 [] w
        )
      ) fun _ w =>
    pureP Pg (Instr.build 34 #[]) fun t25 =>
    callV Pg true (Fv 44) #[(.int .u64 1), (.string ⟨#[97]⟩), (.int .u32 16), t25] w fun t26 w =>
    callV Pg true (Fv 12) #[t19, t26] w fun t27 w =>
    pureP Pg (binS .neq 30 t27 (.int .i64 0)) fun t28 =>
    ifV t28 (
      R (.bool false) w
      ) (
      pureP Pg (Instr.build 34 #[]) fun t31 =>
      callV Pg true (Fv 44) #[(.int .u64 2), (.string ⟨#[98]⟩), (.int .u32 50), t31] w fun t32 w =>
      callV Pg true (Fv 12) #[t19, t32] w fun t33 w =>
      pureP Pg (binS .neq 30 t33 (.int .i64 0)) fun t34 =>
      ifV t34 (
        R (.bool false) w
        ) (
        getO (loadW Pg 34 t5 w) fun t38 =>
        callV Pg true (Fv 44) #[(.int .u64 3), (.string ⟨#[97]⟩), (.int .u32 90), t38] w fun t39 w =>
        callV Pg true (Fv 12) #[t19, t39] w fun t40 w =>
        pureP Pg (binS .neq 30 t40 (.int .i64 0)) fun t41 =>
        ifV t41 (
          R (.bool false) w
          ) (
          pureP Pg (binS .add 3 (nthV s8 0) (.int .i64 1)) fun t43 =>
          next8 [t43] w
          )
        )
      )
    ) (
    S Pg (Instr.buildSlice 36 1 #[(0, (.int .u8 97))]) w fun t46 w =>
    S Pg (convert 36 36 t46) w fun t47 w =>
    callV Pg true (Fv 13) #[t11, t47] w fun t48 w =>
    pureP Pg (Instr.extract t48 0) fun t49 =>
    pureP Pg (Instr.extract t48 1) fun t50 =>
    newP (zeroT Pg 42) 42 w fun t6 w =>
    getU (storeW Pg 42 t6 t49 w) fun w =>
    callV Pg true (Fv 52) #[(.int .u32 90)] w fun t53 w =>
    callV Pg true (Fv 17) #[t11, t53] w fun t54 w =>
    pureP Pg (Instr.extract t54 0) fun t55 =>
    pureP Pg (Instr.extract t54 1) fun t56 =>
    newP (zeroT Pg 34) 34 w fun t8 w =>
    getU (storeW Pg 34 t8 t55 w) fun w =>
    callV Pg true (Fv 15) #[t12] w fun t58 w =>
    ∃ St : World → Prop, St w.drew ∧ drewP w fun w =>
    ifV t50 (
      pureP Pg (Instr.fieldAt 42 t6 0) fun t61 =>
      readP St (loadW Pg 34 t61) fun t62 =>
      callV Pg false (Fv 52) #[(.int .u32 90)] w fun t63 w =>
      St w ∧ (
        pureP Pg (binS .eql 34 t62 t63) fun t64 =>
        ifV t64 (
          ifV t56 (
            readP St (loadW Pg 34 t8) fun t70 =>
            callV Pg false (Fv 52) #[(.int .u32 16)] w fun t71 w =>
            St w ∧ (
              pureP Pg (binS .eql 34 t70 t71) fun t72 =>
              ifV t72 (
                callV Pg false (Fv 15) #[t11] w fun t76 w =>
                St w ∧ (
                  pureP Pg (Builtin.len_ #[47] 3 #[t76]) fun t77 =>
                  pureP Pg (binS .eql 3 t77 (.int .i64 0)) fun t78 =>
                  ifV t78 (
                    pureP Pg (Builtin.len_ #[47] 3 #[t58]) fun t82 =>
                    pureP Pg (binS .eql 3 t82 (.int .i64 1)) fun t83 =>
                    ifV t83 (
                      pureP Pg (Instr.indexAt 47 t58 (.int .i64 0)) fun t87 =>
                      readP St (loadW Pg 34 t87) fun t88 =>
                      callV Pg false (Fv 52) #[(.int .u32 90)] w fun t89 w =>
                      St w ∧ (
                        pureP Pg (binS .eql 34 t88 t89) fun t90 =>
                        R t90 w
                      )
                      ) (
                      R (.bool false) w
                      )
                    ) (
                    R (.bool false) w
                    )
                )
                ) (
                R (.bool false) w
                )
            )
            ) (
            R (.bool false) w
            )
          ) (
          R (.bool false) w
          )
      )
      ) (
      R (.bool false) w
      )
    )
theorem f16 {w : World} {R : Value → World → Prop} (h : F16 w R) : Calls Pg 16 #[] w (retK R) :=
  fn_sound (args := []) Try.func16 (by kernel_rfl) (annOf [(8, [16]), (21, [])]) (of_eq (by kernel_rfl) (by kernel_rfl) h)
theorem c16 {r : Bool} {w : World} {K : Value → World → Prop} (h : F16 w K) : callV Pg r (.func (.func 16) #[] #[]) #[] w K :=
  call_of Try.func16 (by kernel_rfl) (by kernel_rfl) (by kernel_rfl) (f16 h)

/-- (*hourbook/link.Links).Ahead -/
def F17 (a0 a1 : Value) (w : World) (R : Value → World → Prop) : Prop :=
  newP (some a1) 34 w fun t3 w =>
  newP (zeroT Pg 34) 34 w fun t4 w =>
  callV Pg true (Fv 45) #[a0] w fun t9 w =>
  ifV t9 (
    pureP Pg (Instr.build 34 #[]) fun t10 =>
    getU (storeW Pg 34 t4 t10 w) fun w =>
    readW Pg (Instr.loadAt 34 t4) w fun r0 =>
    R (.tuple #[r0, (.bool false)]) w
    ) (
    ∃ St : World → Prop, St w.drew ∧ drewP w fun w =>
    pureP Pg (nilS a0) fun t13 =>
    pureP Pg (Instr.fieldAt 128 t13 1) fun t14 =>
    readP St (loadW Pg 126 t14) fun t15 =>
    readP St (loadW Pg 34 t3) fun t16 =>
    readP St (runR Pg (Instr.lookup 126 t15 t16 true)) fun t17 =>
    pureP Pg (Instr.extract t17 0) fun t18 =>
    pureP Pg (Instr.extract t17 1) fun t19 =>
    newP (zeroT Pg 34) 34 w fun t6 w =>
    St w ∧ (
      getU (storeW Pg 34 t6 t18 w) fun w =>
      getO (loadW Pg 34 t6 w) fun t20 =>
      getU (storeW Pg 34 t4 t20 w) fun w =>
      readW Pg (Instr.loadAt 34 t4) w fun r0 =>
      R (.tuple #[r0, t19]) w
    )
    )
theorem f17 {a0 a1 : Value} {w : World} {R : Value → World → Prop} (h : F17 a0 a1 w R) : Calls Pg 17 #[a0, a1] w (retK R) :=
  fn_sound (args := [a0, a1]) Try.func17 (by kernel_rfl) (fun _ => none) (of_eq (by kernel_rfl) (by kernel_rfl) h)
theorem c17 {r : Bool} {a0 a1 : Value} {w : World} {K : Value → World → Prop} (h : F17 a0 a1 w K) : callV Pg r (.func (.func 17) #[] #[]) #[a0, a1] w K :=
  call_of Try.func17 (by kernel_rfl) (by kernel_rfl) (by kernel_rfl) (f17 h)

/-- hourbook/seen.Newest -/
def F18 (a0 a1 : Value) (w : World) (R : Value → World → Prop) : Prop :=
  callV Pg true (Fv 53) #[a0] w fun t8 w =>
  pureP Pg (Op.unary .not t8) fun t9 =>
  ifV t9 (
    R (.tuple #[(.int .i64 0), (.bool false)]) w
    ) (
    callV Pg true (Fv 54) #[a0, a1] w fun t12 w =>
    pureP Pg (binS .sub 3 t12 (.int .i64 1)) fun t14 =>
    pureP Pg (Builtin.max_ #[3, 3] 3 #[t14, (.int .i64 0)]) fun t15 =>
    pureP Pg (binS .gtr 3 t12 (.int .i64 0)) fun t17 =>
    R (.tuple #[t15, t17]) w
    )
theorem f18 {a0 a1 : Value} {w : World} {R : Value → World → Prop} (h : F18 a0 a1 w R) : Calls Pg 18 #[a0, a1] w (retK R) :=
  fn_sound (args := [a0, a1]) Try.func18 (by kernel_rfl) (fun _ => none) (of_eq (by kernel_rfl) (by kernel_rfl) h)
theorem c18 {r : Bool} {a0 a1 : Value} {w : World} {K : Value → World → Prop} (h : F18 a0 a1 w K) : callV Pg r (.func (.func 18) #[] #[]) #[a0, a1] w K :=
  call_of Try.func18 (by kernel_rfl) (by kernel_rfl) (by kernel_rfl) (f18 h)

/-- hourbook/hourbooklaw20.knows -/
def F19 (w : World) (R : Value → World → Prop) : Prop :=
  pureP Pg (Instr.build 55 #[(0, (.int .u64 1)), (1, (.int .i64 1))]) fun t4 =>
  pureP Pg (Instr.build 55 #[(0, (.int .u64 2)), (1, (.int .i64 1))]) fun t5 =>
  pureP Pg (Instr.build 55 #[(0, (.int .u64 3)), (1, (.int .i64 2))]) fun t6 =>
  S Pg (Instr.buildSlice 53 3 #[(0, t4), (1, t5), (2, t6)]) w fun t7 w =>
  pureP Pg (Instr.build 55 #[(0, (.int .u64 1)), (1, (.int .i64 1))]) fun t8 =>
  pureP Pg (Instr.build 55 #[(0, (.int .u64 3)), (1, (.int .i64 2))]) fun t9 =>
  S Pg (Instr.buildSlice 53 2 #[(0, t8), (1, t9)]) w fun t10 w =>
  pureP Pg (Instr.build 55 #[(0, (.int .u64 1)), (1, (.int .i64 2))]) fun t11 =>
  pureP Pg (Instr.build 55 #[(0, (.int .u64 2)), (1, (.int .i64 1))]) fun t12 =>
  S Pg (Instr.buildSlice 53 2 #[(0, t11), (1, t12)]) w fun t13 w =>
  S Pg (Instr.buildSlice 66 2 #[(0, (.int .u64 1)), (1, (.int .u64 9))]) w fun t15 w =>
  callV Pg true (Fv 56) #[t7, t15] w fun t16 w =>
  S Pg (Instr.buildSlice 73 2 #[(0, (.int .i64 0)), (1, (.int .i64 2))]) w fun t17 w =>
  callV Pg true (Fv 55) #[t16, t17] w fun t18 w =>
  ifV t18 (
    S Pg (Instr.buildSlice 66 1 #[(0, (.int .u64 9))]) w fun t21 w =>
    callV Pg true (Fv 56) #[t10, t21] w fun t22 w =>
    callV Pg true (Fv 55) #[t22, (.slice none 0 0)] w fun t23 w =>
    ifV t23 (
      S Pg (Instr.buildSlice 66 2 #[(0, (.int .u64 1)), (1, (.int .u64 2))]) w fun t27 w =>
      callV Pg true (Fv 56) #[t13, t27] w fun t28 w =>
      S Pg (Instr.buildSlice 73 1 #[(0, (.int .i64 1))]) w fun t29 w =>
      callV Pg true (Fv 55) #[t28, t29] w fun t30 w =>
      ifV t30 (
        callV Pg true (Fv 57) #[t7, (.int .u64 2)] w fun t34 w =>
        ifV t34 (
          callV Pg true (Fv 57) #[t7, (.int .u64 3)] w fun t38 w =>
          pureP Pg (Op.unary .not t38) fun t39 =>
          R t39 w
          ) (
          R (.bool false) w
          )
        ) (
        R (.bool false) w
        )
      ) (
      R (.bool false) w
      )
    ) (
    R (.bool false) w
    )
theorem f19 {w : World} {R : Value → World → Prop} (h : F19 w R) : Calls Pg 19 #[] w (retK R) :=
  fn_sound (args := []) Try.func19 (by kernel_rfl) (fun _ => none) (of_eq (by kernel_rfl) (by kernel_rfl) h)
theorem c19 {r : Bool} {w : World} {K : Value → World → Prop} (h : F19 w K) : callV Pg r (.func (.func 19) #[] #[]) #[] w K :=
  call_of Try.func19 (by kernel_rfl) (by kernel_rfl) (by kernel_rfl) (f19 h)

/-- hourbook/hourbooklaw25.items -/
def F20 (a0 : Value) (w : World) (R : Value → World → Prop) : Prop :=
  pureP Pg (Builtin.len_ #[61] 3 #[a0]) fun t10 =>
  loopP [(.slice none 0 0), (.int .u64 0), (.int .i64 0)] w fun s10 w next10 => -- t4 t5 t11
  pureP Pg (binS .lss 3 (nthV s10 2) t10) fun t12 =>
  ifV t12 (
    pureP Pg (Instr.indexAt 61 a0 (nthV s10 2)) fun t14 =>
    getO (loadW Pg 146 t14 w) fun t15 =>
    newP (zeroT Pg 146) 146 w fun t7 w =>
    getU (storeW Pg 146 t7 t15 w) fun w =>
    pureP Pg (binS .eql 3 (nthV s10 2) (.int .i64 60)) fun t17 =>
    ifV t17 (
      R (.tuple #[(nthV s10 0), (nthV s10 1)]) w
      ) (
      pureP Pg (Instr.fieldAt 146 t7 3) fun t19 =>
      getO (loadW Pg 5 t19 w) fun t20 =>
      pureP Pg (binS .rem 5 t20 (.int .u8 4)) fun t21 =>
      pureP Pg (convert 5 35 t21) fun t22 =>
      pureP Pg (binS .add 35 (.int .u64 1) t22) fun t23 =>
      pureP Pg (binS .add 35 (nthV s10 1) t23) fun t24 =>
      pureP Pg (Instr.fieldAt 146 t7 0) fun t25 =>
      getO (loadW Pg 5 t25 w) fun t26 =>
      pureP Pg (binS .rem 5 t26 (.int .u8 5)) fun t27 =>
      S Pg (Instr.buildSlice 36 2 #[(0, (.int .u8 107)), (1, t27)]) w fun t28 w =>
      pureP Pg (Instr.fieldAt 146 t7 2) fun t30 =>
      getO (loadW Pg 62 t30 w) fun t31 =>
      pureP Pg (binS .rem 62 t31 (.int .u16 1089)) fun t32 =>
      pureP Pg (convert 62 3 t32) fun t33 =>
      pureP Pg (binS .add 3 (.int .i64 25) t33) fun t34 =>
      pureP Pg (Instr.build 79 #[(0, t28), (1, t24), (2, (.int .i64 1)), (3, t34)]) fun t35 =>
      newP (zeroT Pg 79) 79 w fun t8 w =>
      getU (storeW Pg 79 t8 t35 w) fun w =>
      joinP (fun J31 =>
        pureP Pg (Instr.fieldAt 146 t7 1) fun t36 =>
        getO (loadW Pg 4 t36 w) fun t37 =>
        ifV t37 (
          pureP Pg (Instr.fieldAt 79 t8 2) fun t38 =>
          getU (storeW Pg 3 t38 (.int .i64 2) w) fun w =>
          J31 [] w
          ) (
          J31 [] w
          )
        ) fun _ w =>
      getO (loadW Pg 79 t8 w) fun t40 =>
      S Pg (Instr.buildSlice 63 1 #[(0, t40)]) w fun t41 w =>
      S Pg (Builtin.append_ #[63, 63] 63 #[(nthV s10 0), t41]) w fun t42 w =>
      pureP Pg (binS .add 3 (nthV s10 2) (.int .i64 1)) fun t43 =>
      next10 [t42, t24, t43] w
      )
    ) (
    R (.tuple #[(nthV s10 0), (nthV s10 1)]) w
    )
theorem f20 {a0 : Value} {w : World} {R : Value → World → Prop} (h : F20 a0 w R) : Calls Pg 20 #[a0] w (retK R) :=
  fn_sound (args := [a0]) Try.func20 (by kernel_rfl) (annOf [(10, [4,5,11]), (31, [])]) (of_eq (by kernel_rfl) (by kernel_rfl) h)
theorem c20 {r : Bool} {a0 : Value} {w : World} {K : Value → World → Prop} (h : F20 a0 w K) : callV Pg r (.func (.func 20) #[] #[]) #[a0] w K :=
  call_of Try.func20 (by kernel_rfl) (by kernel_rfl) (by kernel_rfl) (f20 h)

/-- hourbook/plan.Of -/
def F21 (a0 a1 a2 a3 : Value) (w : World) (R : Value → World → Prop) : Prop :=
  newP (some a0) 63 w fun t4 w =>
  newP (some a2) 3 w fun t6 w =>
  newP (some a3) 32 w fun t7 w =>
  newP (zeroT Pg 70) 70 w fun t8 w =>
  getO (loadW Pg 63 t4 w) fun t16 =>
  callV Pg true (Fv 24) #[t16] w fun t17 w =>
  pureP Pg (Op.unary .not t17) fun t18 =>
  ifV t18 (
    pureP Pg (Instr.build 70 #[]) fun t35 =>
    getU (storeW Pg 70 t8 t35 w) fun w =>
    readW Pg (Instr.loadAt 70 t8) w fun r0 =>
    R (.tuple #[r0, (.int .i64 1)]) w
    ) (
    getO (loadW Pg 3 t6 w) fun t20 =>
    pureP Pg (binS .lss 3 t20 (.int .i64 4096)) fun t21 =>
    ifV t21 (
      pureP Pg (Instr.build 70 #[]) fun t35_1 =>
      getU (storeW Pg 70 t8 t35_1 w) fun w =>
      readW Pg (Instr.loadAt 70 t8) w fun r0 =>
      R (.tuple #[r0, (.int .i64 1)]) w
      ) (
      getO (loadW Pg 3 t6 w) fun t24 =>
      pureP Pg (binS .gtr 3 t24 (.int .i64 16777216)) fun t25 =>
      ifV t25 (
        pureP Pg (Instr.build 70 #[]) fun t35_2 =>
        getU (storeW Pg 70 t8 t35_2 w) fun w =>
        readW Pg (Instr.loadAt 70 t8) w fun r0 =>
        R (.tuple #[r0, (.int .i64 1)]) w
        ) (
        getO (loadW Pg 32 t7 w) fun t28 =>
        pureP Pg (binS .lss 32 t28 (.int .u32 1)) fun t29 =>
        ifV t29 (
          pureP Pg (Instr.build 70 #[]) fun t35_3 =>
          getU (storeW Pg 70 t8 t35_3 w) fun w =>
          readW Pg (Instr.loadAt 70 t8) w fun r0 =>
          R (.tuple #[r0, (.int .i64 1)]) w
          ) (
          getO (loadW Pg 32 t7 w) fun t32 =>
          pureP Pg (binS .gtr 32 t32 (.int .u32 16777215)) fun t33 =>
          ifV t33 (
            pureP Pg (Instr.build 70 #[]) fun t35_4 =>
            getU (storeW Pg 70 t8 t35_4 w) fun w =>
            readW Pg (Instr.loadAt 70 t8) w fun r0 =>
            R (.tuple #[r0, (.int .i64 1)]) w
            ) (
            newP (zeroT Pg 70) 70 w fun t10 w =>
            S Pg (Instr.makeMap 147 none) w fun t36 w =>
            newP (zeroT Pg 147) 147 w fun t11 w =>
            getU (storeW Pg 147 t11 t36 w) fun w =>
            pureP Pg (Instr.makeFunc (.func 58) #[] #[t4, t10, t6, t7, t11]) fun t37 =>
            getO (loadW Pg 63 t4 w) fun t38 =>
            callV Pg true (Fv 59) #[t38, a1] w fun t40 w =>
            pureP Pg (Builtin.len_ #[142] 3 #[t40]) fun t41 =>
            loopP [(.int .i64 0)] w fun s20 w next20 => -- t42
            pureP Pg (binS .lss 3 (nthV s20 0) t41) fun t43 =>
            ifV t43 (
              pureP Pg (Instr.indexAt 142 t40 (nthV s20 0)) fun t45 =>
              getO (loadW Pg 4 t45 w) fun t46 =>
              ifV t46 (
                callV Pg true t37 #[(nthV s20 0)] w fun _ w =>
                pureP Pg (binS .add 3 (nthV s20 0) (.int .i64 1)) fun t51 =>
                next20 [t51] w
                ) (
                pureP Pg (binS .add 3 (nthV s20 0) (.int .i64 1)) fun t51_1 =>
                next20 [t51_1] w
                )
              ) (
              pureP Pg (Instr.fieldAt 70 t10 1) fun t52 =>
              getO (loadW Pg 68 t52 w) fun t53 =>
              pureP Pg (Builtin.len_ #[68] 3 #[t53]) fun t54 =>
              pureP Pg (binS .gtr 3 t54 (.int .i64 200)) fun t56 =>
              ifV t56 (
                pureP Pg (Instr.build 70 #[]) fun t71 =>
                getU (storeW Pg 70 t8 t71 w) fun w =>
                readW Pg (Instr.loadAt 70 t8) w fun r0 =>
                R (.tuple #[r0, (.int .i64 7)]) w
                ) (
                pureP Pg (binS .gtr 3 t54 (.int .i64 0)) fun t59 =>
                ifV t59 (
                  pureP Pg (Instr.fieldAt 70 t10 1) fun t61 =>
                  getO (loadW Pg 68 t61 w) fun t62 =>
                  pureP Pg (binS .sub 3 t54 (.int .i64 1)) fun t64 =>
                  pureP Pg (Instr.indexAt 68 t62 t64) fun t65 =>
                  pureP Pg (Instr.fieldAt 116 t65 0) fun t66 =>
                  getO (loadW Pg 32 t66 w) fun t67 =>
                  pureP Pg (binS .geq 32 t67 (.int .u32 16777215)) fun t68 =>
                  ifV t68 (
                    pureP Pg (Instr.build 70 #[]) fun t71_1 =>
                    getU (storeW Pg 70 t8 t71_1 w) fun w =>
                    readW Pg (Instr.loadAt 70 t8) w fun r0 =>
                    R (.tuple #[r0, (.int .i64 7)]) w
                    ) (
                    getO (loadW Pg 70 t10 w) fun t72 =>
                    getU (storeW Pg 70 t8 t72 w) fun w =>
                    readW Pg (Instr.loadAt 70 t8) w fun r0 =>
                    R (.tuple #[r0, (.int .i64 0)]) w
                    )
                  ) (
                  getO (loadW Pg 70 t10 w) fun t72_1 =>
                  getU (storeW Pg 70 t8 t72_1 w) fun w =>
                  readW Pg (Instr.loadAt 70 t8) w fun r0 =>
                  R (.tuple #[r0, (.int .i64 0)]) w
                  )
                )
              )
            )
          )
        )
      )
    )
theorem f21 {a0 a1 a2 a3 : Value} {w : World} {R : Value → World → Prop} (h : F21 a0 a1 a2 a3 w R) : Calls Pg 21 #[a0, a1, a2, a3] w (retK R) :=
  fn_sound (args := [a0, a1, a2, a3]) Try.func21 (by kernel_rfl) (annOf [(20, [42])]) (of_eq (by kernel_rfl) (by kernel_rfl) h)
theorem c21 {r : Bool} {a0 a1 a2 a3 : Value} {w : World} {K : Value → World → Prop} (h : F21 a0 a1 a2 a3 w K) : callV Pg r (.func (.func 21) #[] #[]) #[a0, a1, a2, a3] w K :=
  call_of Try.func21 (by kernel_rfl) (by kernel_rfl) (by kernel_rfl) (f21 h)

/-- hourbook/hourbooklaw25.wakes -/
def F22 (w : World) (R : Value → World → Prop) : Prop :=
  callV Pg true (Fv 25) #[] w fun t9 w =>
  S Pg (Instr.buildSlice 66 1 #[(0, (.int .u64 5))]) w fun t10 w =>
  callV Pg true (Fv 21) #[t9, t10, (.int .i64 4096), (.int .u32 9)] w fun t11 w =>
  pureP Pg (Instr.extract t11 0) fun t12 =>
  pureP Pg (Instr.extract t11 1) fun t13 =>
  newP (zeroT Pg 70) 70 w fun t1 w =>
  getU (storeW Pg 70 t1 t12 w) fun w =>
  callV Pg true (Fv 25) #[] w fun t15 w =>
  S Pg (Instr.buildSlice 66 2 #[(0, (.int .u64 1)), (1, (.int .u64 5))]) w fun t16 w =>
  callV Pg true (Fv 21) #[t15, t16, (.int .i64 4096), (.int .u32 9)] w fun t17 w =>
  pureP Pg (Instr.extract t17 0) fun t18 =>
  pureP Pg (Instr.extract t17 1) fun t19 =>
  newP (zeroT Pg 70) 70 w fun t3 w =>
  getU (storeW Pg 70 t3 t18 w) fun w =>
  callV Pg true (Fv 25) #[] w fun t21 w =>
  callV Pg true (Fv 21) #[t21, (.slice none 0 0), (.int .i64 4096), (.int .u32 9)] w fun t22 w =>
  pureP Pg (Instr.extract t22 0) fun t23 =>
  pureP Pg (Instr.extract t22 1) fun t24 =>
  newP (zeroT Pg 70) 70 w fun t5 w =>
  getU (storeW Pg 70 t5 t23 w) fun w =>
  ∃ St : World → Prop, St w.drew ∧ drewP w fun w =>
  pureP Pg (binS .eql 30 t13 (.int .i64 0)) fun t26 =>
  ifV t26 (
    pureP Pg (Instr.fieldAt 70 t1 0) fun t28 =>
    readP St (loadW Pg 67 t28) fun t29 =>
    callV Pg false (Fv 60) #[(.int .u32 16)] w fun t31 w =>
    St w ∧ (
      pureP Pg (Instr.build 75 #[(0, (.int .i64 4)), (1, t31)]) fun t32 =>
      S Pg (Instr.buildSlice 67 1 #[(0, t32)]) w fun t33 w =>
      St w ∧ (
        callV Pg false (Fv 61) #[t29, t33] w fun t34 w =>
        St w ∧ (
          ifV t34 (
            pureP Pg (binS .eql 30 t19 (.int .i64 0)) fun t38 =>
            ifV t38 (
              pureP Pg (Instr.fieldAt 70 t3 0) fun t41 =>
              readP St (loadW Pg 67 t41) fun t42 =>
              callV Pg false (Fv 60) #[(.int .u32 16)] w fun t44 w =>
              St w ∧ (
                pureP Pg (Instr.build 75 #[(0, (.int .i64 0)), (1, t44)]) fun t45 =>
                callV Pg false (Fv 60) #[(.int .u32 46)] w fun t47 w =>
                St w ∧ (
                  callV Pg false (Fv 60) #[(.int .u32 16)] w fun t49 w =>
                  St w ∧ (
                    pureP Pg (Instr.build 75 #[(0, (.int .i64 3)), (1, t47), (2, t49)]) fun t50 =>
                    callV Pg false (Fv 60) #[(.int .u32 76)] w fun t52 w =>
                    St w ∧ (
                      pureP Pg (Instr.build 75 #[(0, (.int .i64 4)), (1, t52)]) fun t53 =>
                      S Pg (Instr.buildSlice 67 3 #[(0, t45), (1, t50), (2, t53)]) w fun t54 w =>
                      St w ∧ (
                        callV Pg false (Fv 61) #[t42, t54] w fun t55 w =>
                        St w ∧ (
                          ifV t55 (
                            pureP Pg (Instr.fieldAt 70 t3 1) fun t58 =>
                            readP St (loadW Pg 68 t58) fun t59 =>
                            pureP Pg (Instr.build 116 #[(0, (.int .u32 9)), (1, (.int .u32 106)), (2, (.int .u32 3)), (3, (.int .u64 1)), (4, (.int .u64 5))]) fun t60 =>
                            S Pg (Instr.buildSlice 68 1 #[(0, t60)]) w fun t61 w =>
                            St w ∧ (
                              callV Pg false (Fv 40) #[t59, t61] w fun t62 w =>
                              St w ∧ (
                                ifV t62 (
                                  pureP Pg (binS .eql 30 t24 (.int .i64 0)) fun t66 =>
                                  ifV t66 (
                                    pureP Pg (Instr.fieldAt 70 t5 0) fun t69 =>
                                    readP St (loadW Pg 67 t69) fun t70 =>
                                    pureP Pg (Builtin.len_ #[67] 3 #[t70]) fun t71 =>
                                    pureP Pg (binS .eql 3 t71 (.int .i64 0)) fun t72 =>
                                    ifV t72 (
                                      pureP Pg (Instr.fieldAt 70 t5 1) fun t75 =>
                                      readP St (loadW Pg 68 t75) fun t76 =>
                                      pureP Pg (Builtin.len_ #[68] 3 #[t76]) fun t77 =>
                                      pureP Pg (binS .eql 3 t77 (.int .i64 0)) fun t78 =>
                                      R t78 w
                                      ) (
                                      R (.bool false) w
                                      )
                                    ) (
                                    R (.bool false) w
                                    )
                                  ) (
                                  R (.bool false) w
                                  )
                              )
                            )
                            ) (
                            R (.bool false) w
                            )
                        )
                      )
                    )
                  )
                )
              )
              ) (
              R (.bool false) w
              )
            ) (
            R (.bool false) w
            )
        )
      )
    )
    ) (
    R (.bool false) w
    )
theorem f22 {w : World} {R : Value → World → Prop} (h : F22 w R) : Calls Pg 22 #[] w (retK R) :=
  fn_sound (args := []) Try.func22 (by kernel_rfl) (fun _ => none) (of_eq (by kernel_rfl) (by kernel_rfl) h)
theorem c22 {r : Bool} {w : World} {K : Value → World → Prop} (h : F22 w K) : callV Pg r (.func (.func 22) #[] #[]) #[] w K :=
  call_of Try.func22 (by kernel_rfl) (by kernel_rfl) (by kernel_rfl) (f22 h)

/-- hourbook/hourbooklaw25.newest -/
def F23 (a0 a1 a2 a3 : Value) (w : World) (R : Value → World → Prop) : Prop :=
  pureP Pg (Builtin.len_ #[73] 3 #[a1]) fun t13 =>
  loopP [(.int .i64 (-1)), (.int .i64 0)] w fun s8 w next8 => -- t9 t14
  pureP Pg (binS .lss 3 (nthV s8 1) t13) fun t15 =>
  ifV t15 (
    pureP Pg (Instr.indexAt 73 a1 (nthV s8 1)) fun t16 =>
    getO (loadW Pg 3 t16 w) fun t17 =>
    pureP Pg (Instr.indexAt 63 a0 t17) fun t20 =>
    pureP Pg (Instr.fieldAt 79 t20 0) fun t21 =>
    getO (loadW Pg 36 t21 w) fun t22 =>
    pureP Pg (Instr.indexAt 36 t22 (.int .i64 1)) fun t23 =>
    getO (loadW Pg 5 t23 w) fun t24 =>
    pureP Pg (convert 5 35 t24) fun t25 =>
    pureP Pg (binS .eql 35 t25 a2) fun t27 =>
    ifV t27 (
      pureP Pg (Instr.indexAt 63 a0 t17) fun t31 =>
      pureP Pg (Instr.fieldAt 79 t31 1) fun t32 =>
      getO (loadW Pg 35 t32 w) fun t33 =>
      pureP Pg (binS .leq 35 t33 a3) fun t35 =>
      ifV t35 (
        pureP Pg (binS .add 3 (nthV s8 1) (.int .i64 1)) fun t38 =>
        next8 [t17, t38] w
        ) (
        pureP Pg (binS .add 3 (nthV s8 1) (.int .i64 1)) fun t38_1 =>
        next8 [(nthV s8 0), t38_1] w
        )
      ) (
      pureP Pg (binS .add 3 (nthV s8 1) (.int .i64 1)) fun t38_2 =>
      next8 [(nthV s8 0), t38_2] w
      )
    ) (
    R (nthV s8 0) w
    )
theorem f23 {a0 a1 a2 a3 : Value} {w : World} {R : Value → World → Prop} (h : F23 a0 a1 a2 a3 w R) : Calls Pg 23 #[a0, a1, a2, a3] w (retK R) :=
  fn_sound (args := [a0, a1, a2, a3]) Try.func23 (by kernel_rfl) (annOf [(8, [9,14])]) (of_eq (by kernel_rfl) (by kernel_rfl) h)
theorem c23 {r : Bool} {a0 a1 a2 a3 : Value} {w : World} {K : Value → World → Prop} (h : F23 a0 a1 a2 a3 w K) : callV Pg r (.func (.func 23) #[] #[]) #[a0, a1, a2, a3] w K :=
  call_of Try.func23 (by kernel_rfl) (by kernel_rfl) (by kernel_rfl) (f23 h)

/-- hourbook/plan.May -/
def F24 (a0 : Value) (w : World) (R : Value → World → Prop) : Prop :=
  pureP Pg (Builtin.len_ #[63] 3 #[a0]) fun t7 =>
  loopP [(.int .u64 0), (.int .i64 0)] w fun s8 w next8 => -- t3 t8
  pureP Pg (binS .lss 3 (nthV s8 1) t7) fun t9 =>
  ifV t9 (
    pureP Pg (Instr.indexAt 63 a0 (nthV s8 1)) fun t10 =>
    getO (loadW Pg 79 t10 w) fun t11 =>
    newP (zeroT Pg 79) 79 w fun t5 w =>
    getU (storeW Pg 79 t5 t11 w) fun w =>
    pureP Pg (Instr.fieldAt 79 t5 0) fun t12 =>
    getO (loadW Pg 36 t12 w) fun t13 =>
    callV Pg true (Fv 50) #[t13] w fun t14 w =>
    pureP Pg (Op.unary .not t14) fun t15 =>
    ifV t15 (
      R (.bool false) w
      ) (
      pureP Pg (Instr.fieldAt 79 t5 1) fun t17 =>
      getO (loadW Pg 35 t17 w) fun t18 =>
      pureP Pg (binS .leq 35 t18 (nthV s8 0)) fun t20 =>
      ifV t20 (
        R (.bool false) w
        ) (
        pureP Pg (Instr.fieldAt 79 t5 1) fun t23 =>
        getO (loadW Pg 35 t23 w) fun t24 =>
        pureP Pg (binS .gtr 35 t24 (.int .u64 1099511627776)) fun t25 =>
        ifV t25 (
          R (.bool false) w
          ) (
          pureP Pg (Instr.fieldAt 79 t5 2) fun t28 =>
          getO (loadW Pg 3 t28 w) fun t29 =>
          pureP Pg (binS .neq 3 t29 (.int .i64 1)) fun t30 =>
          ifV t30 (
            pureP Pg (Instr.fieldAt 79 t5 2) fun t32 =>
            getO (loadW Pg 3 t32 w) fun t33 =>
            pureP Pg (binS .neq 3 t33 (.int .i64 2)) fun t34 =>
            ifV t34 (
              R (.bool false) w
              ) (
              pureP Pg (Instr.fieldAt 79 t5 3) fun t38 =>
              getO (loadW Pg 3 t38 w) fun t39 =>
              pureP Pg (binS .lss 3 t39 (.int .i64 25)) fun t40 =>
              ifV t40 (
                R (.bool false) w
                ) (
                pureP Pg (Instr.fieldAt 79 t5 3) fun t43 =>
                getO (loadW Pg 3 t43 w) fun t44 =>
                pureP Pg (binS .gtr 3 t44 (.int .i64 1113)) fun t45 =>
                ifV t45 (
                  R (.bool false) w
                  ) (
                  pureP Pg (Instr.fieldAt 79 t5 1) fun t47 =>
                  getO (loadW Pg 35 t47 w) fun t48 =>
                  pureP Pg (binS .add 3 (nthV s8 1) (.int .i64 1)) fun t49 =>
                  next8 [t48, t49] w
                  )
                )
              )
            ) (
            pureP Pg (Instr.fieldAt 79 t5 3) fun t38_1 =>
            getO (loadW Pg 3 t38_1 w) fun t39_1 =>
            pureP Pg (binS .lss 3 t39_1 (.int .i64 25)) fun t40_1 =>
            ifV t40_1 (
              R (.bool false) w
              ) (
              pureP Pg (Instr.fieldAt 79 t5 3) fun t43_1 =>
              getO (loadW Pg 3 t43_1 w) fun t44_1 =>
              pureP Pg (binS .gtr 3 t44_1 (.int .i64 1113)) fun t45_1 =>
              ifV t45_1 (
                R (.bool false) w
                ) (
                pureP Pg (Instr.fieldAt 79 t5 1) fun t47_1 =>
                getO (loadW Pg 35 t47_1 w) fun t48_1 =>
                pureP Pg (binS .add 3 (nthV s8 1) (.int .i64 1)) fun t49_1 =>
                next8 [t48_1, t49_1] w
                )
              )
            )
          )
        )
      )
    ) (
    R (.bool true) w
    )
theorem f24 {a0 : Value} {w : World} {R : Value → World → Prop} (h : F24 a0 w R) : Calls Pg 24 #[a0] w (retK R) :=
  fn_sound (args := [a0]) Try.func24 (by kernel_rfl) (annOf [(8, [3,8])]) (of_eq (by kernel_rfl) (by kernel_rfl) h)
theorem c24 {r : Bool} {a0 : Value} {w : World} {K : Value → World → Prop} (h : F24 a0 w K) : callV Pg r (.func (.func 24) #[] #[]) #[a0] w K :=
  call_of Try.func24 (by kernel_rfl) (by kernel_rfl) (by kernel_rfl) (f24 h)

/-- hourbook/hourbooklaw25.five -/
def F25 (w : World) (R : Value → World → Prop) : Prop :=
  S Pg (Instr.buildSlice 36 1 #[(0, (.int .u8 97))]) w fun t3 w =>
  S Pg (convert 36 36 t3) w fun t4 w =>
  S Pg (Instr.buildSlice 36 1 #[(0, (.int .u8 98))]) w fun t5 w =>
  S Pg (convert 36 36 t5) w fun t6 w =>
  pureP Pg (Instr.build 79 #[(0, t4), (1, (.int .u64 1)), (2, (.int .i64 1)), (3, (.int .i64 30))]) fun t8 =>
  pureP Pg (Instr.build 79 #[(0, t4), (1, (.int .u64 2)), (2, (.int .i64 1)), (3, (.int .i64 30))]) fun t10 =>
  pureP Pg (Instr.build 79 #[(0, t6), (1, (.int .u64 3)), (2, (.int .i64 1)), (3, (.int .i64 30))]) fun t12 =>
  pureP Pg (Instr.build 79 #[(0, t4), (1, (.int .u64 4)), (2, (.int .i64 2)), (3, (.int .i64 30))]) fun t14 =>
  pureP Pg (Instr.build 79 #[(0, t6), (1, (.int .u64 5)), (2, (.int .i64 1)), (3, (.int .i64 30))]) fun t16 =>
  S Pg (Instr.buildSlice 63 5 #[(0, t8), (1, t10), (2, t12), (3, t14), (4, t16)]) w fun t17 w =>
  R t17 w
theorem f25 {w : World} {R : Value → World → Prop} (h : F25 w R) : Calls Pg 25 #[] w (retK R) :=
  fn_sound (args := []) Try.func25 (by kernel_rfl) (fun _ => none) (of_eq (by kernel_rfl) (by kernel_rfl) h)
theorem c25 {r : Bool} {w : World} {K : Value → World → Prop} (h : F25 w K) : callV Pg r (.func (.func 25) #[] #[]) #[] w K :=
  call_of Try.func25 (by kernel_rfl) (by kernel_rfl) (by kernel_rfl) (f25 h)

/-- hourbook/plan.Bytes -/
def F26 (a0 : Value) (w : World) (R : Value → World → Prop) : Prop :=
  newP (some a0) 70 w fun t1 w =>
  pureP Pg (Instr.fieldAt 70 t1 1) fun t6 =>
  getO (loadW Pg 68 t6 w) fun t7 =>
  pureP Pg (Builtin.len_ #[68] 3 #[t7]) fun t8 =>
  loopP [(.int .i64 0), (.int .i64 0)] w fun s8 w next8 => -- t3 t9
  pureP Pg (binS .lss 3 (nthV s8 1) t8) fun t10 =>
  ifV t10 (
    pureP Pg (Instr.indexAt 68 t7 (nthV s8 1)) fun t11 =>
    getO (loadW Pg 116 t11 w) fun t12 =>
    newP (zeroT Pg 116) 116 w fun t5 w =>
    getU (storeW Pg 116 t5 t12 w) fun w =>
    pureP Pg (Instr.fieldAt 116 t5 1) fun t14 =>
    getO (loadW Pg 32 t14 w) fun t15 =>
    pureP Pg (convert 32 3 t15) fun t16 =>
    pureP Pg (binS .add 3 (nthV s8 0) t16) fun t17 =>
    pureP Pg (binS .add 3 (nthV s8 1) (.int .i64 1)) fun t18 =>
    next8 [t17, t18] w
    ) (
    R (nthV s8 0) w
    )
theorem f26 {a0 : Value} {w : World} {R : Value → World → Prop} (h : F26 a0 w R) : Calls Pg 26 #[a0] w (retK R) :=
  fn_sound (args := [a0]) Try.func26 (by kernel_rfl) (annOf [(8, [3,9])]) (of_eq (by kernel_rfl) (by kernel_rfl) h)
theorem c26 {r : Bool} {a0 : Value} {w : World} {K : Value → World → Prop} (h : F26 a0 w K) : callV Pg r (.func (.func 26) #[] #[]) #[a0] w K :=
  call_of Try.func26 (by kernel_rfl) (by kernel_rfl) (by kernel_rfl) (f26 h)

/-- hourbook/probe.New -/
def F27 (a0 : Value) (w : World) (R : Value → World → Prop) : Prop :=
  S Pg (Instr.makeSlice 93 (.int .i64 8) (.int .i64 8)) w fun t4 w =>
  pureP Pg (Instr.build 153 #[(0, a0), (1, t4)]) fun t5 =>
  newP (some t5) 153 w fun t6 w =>
  R t6 w
theorem f27 {a0 : Value} {w : World} {R : Value → World → Prop} (h : F27 a0 w R) : Calls Pg 27 #[a0] w (retK R) :=
  fn_sound (args := [a0]) Try.func27 (by kernel_rfl) (fun _ => none) (of_eq (by kernel_rfl) (by kernel_rfl) h)
theorem c27 {r : Bool} {a0 : Value} {w : World} {K : Value → World → Prop} (h : F27 a0 w K) : callV Pg r (.func (.func 27) #[] #[]) #[a0] w K :=
  call_of Try.func27 (by kernel_rfl) (by kernel_rfl) (by kernel_rfl) (f27 h)

/-- (*hourbook/probe.Table).Set -/
def F28 (a0 a1 a2 : Value) (w : World) (R : Value → World → Prop) : Prop :=
  callV Pg true (Fv 62) #[a0] w fun t13 w =>
  ifV t13 (
    R (.int .i64 2) w
    ) (
    callV Pg true (Fv 50) #[a1] w fun t16 w =>
    pureP Pg (Op.unary .not t16) fun t17 =>
    ifV t17 (
      R (.int .i64 1) w
      ) (
      callV Pg true (Fv 34) #[a0, a1] w fun t21 w =>
      pureP Pg (Instr.extract t21 0) fun _ =>
      pureP Pg (Instr.extract t21 1) fun t23 =>
      ifV t23 (
        callV Pg true (Fv 63) #[a0, a1] w fun t28 w =>
        pureP Pg (Instr.extract t28 0) fun t29 =>
        pureP Pg (Instr.extract t28 1) fun _ =>
        pureP Pg (nilS a0) fun t32 =>
        pureP Pg (Instr.fieldAt 153 t32 1) fun t33 =>
        getO (loadW Pg 93 t33 w) fun t34 =>
        pureP Pg (Instr.indexAt 93 t34 t29) fun t37 =>
        pureP Pg (Instr.fieldAt 96 t37 2) fun t38 =>
        getU (storeW Pg 35 t38 a2 w) fun w =>
        R (.int .i64 0) w
        ) (
        pureP Pg (nilS a0) fun t41 =>
        pureP Pg (Instr.fieldAt 153 t41 2) fun t42 =>
        getO (loadW Pg 3 t42 w) fun t43 =>
        pureP Pg (binS .add 3 t43 (.int .i64 1)) fun t44 =>
        callV Pg true (Fv 64) #[a0, t44] w fun _ w =>
        callV Pg true (Fv 37) #[a1] w fun t48 w =>
        callV Pg true (Fv 65) #[a0, t48, a2] w fun _ w =>
        R (.int .i64 0) w
        )
      )
    )
theorem f28 {a0 a1 a2 : Value} {w : World} {R : Value → World → Prop} (h : F28 a0 a1 a2 w R) : Calls Pg 28 #[a0, a1, a2] w (retK R) :=
  fn_sound (args := [a0, a1, a2]) Try.func28 (by kernel_rfl) (fun _ => none) (of_eq (by kernel_rfl) (by kernel_rfl) h)
theorem c28 {r : Bool} {a0 a1 a2 : Value} {w : World} {K : Value → World → Prop} (h : F28 a0 a1 a2 w K) : callV Pg r (.func (.func 28) #[] #[]) #[a0, a1, a2] w K :=
  call_of Try.func28 (by kernel_rfl) (by kernel_rfl) (by kernel_rfl) (f28 h)

/-- (*hourbook/probe.Table).Remove -/
def F29 (a0 a1 : Value) (w : World) (R : Value → World → Prop) : Prop :=
  newP (some a0) 89 w fun t2 w =>
  getO (loadW Pg 89 t2 w) fun t11 =>
  callV Pg true (Fv 62) #[t11] w fun t12 w =>
  ifV t12 (
    R (.int .i64 2) w
    ) (
    callV Pg true (Fv 50) #[a1] w fun t15 w =>
    pureP Pg (Op.unary .not t15) fun t16 =>
    ifV t16 (
      R (.int .i64 1) w
      ) (
      getO (loadW Pg 89 t2 w) fun t18 =>
      callV Pg true (Fv 34) #[t18, a1] w fun t20 w =>
      pureP Pg (Instr.extract t20 0) fun _ =>
      pureP Pg (Instr.extract t20 1) fun t22 =>
      pureP Pg (Op.unary .not t22) fun t24 =>
      ifV t24 (
        R (.int .i64 6) w
        ) (
        getO (loadW Pg 89 t2 w) fun t26 =>
        callV Pg true (Fv 63) #[t26, a1] w fun t28 w =>
        pureP Pg (Instr.extract t28 0) fun t29 =>
        pureP Pg (Instr.extract t28 1) fun _ =>
        newP (zeroT Pg 3) 3 w fun t7 w =>
        getU (storeW Pg 3 t7 t29 w) fun w =>
        pureP Pg (Instr.makeFunc (.func 66) #[] #[t2, t7]) fun t31 =>
        loopP [] w fun _ w next33 => -- 
        callV Pg true t31 #[] w fun t33 w =>
        ifV t33 (
          next33 [] w
          ) (
          getO (loadW Pg 89 t2 w) fun t34 =>
          pureP Pg (nilS t34) fun t35 =>
          pureP Pg (Instr.fieldAt 153 t35 2) fun t36 =>
          getO (loadW Pg 3 t36 w) fun t37 =>
          pureP Pg (binS .sub 3 t37 (.int .i64 1)) fun t38 =>
          pureP Pg (nilS t34) fun t39 =>
          pureP Pg (Instr.fieldAt 153 t39 2) fun t40 =>
          getU (storeW Pg 3 t40 t38 w) fun w =>
          ∃ St : World → Prop, St w.drew ∧ drewP w fun w =>
          readP St (loadW Pg 89 t2) fun t41 =>
          readP St (loadW Pg 89 t2) fun t42 =>
          pureP Pg (nilS t42) fun t43 =>
          pureP Pg (Instr.fieldAt 153 t43 2) fun t44 =>
          readP St (loadW Pg 3 t44) fun t45 =>
          callV Pg false (Fv 64) #[t41, t45] w fun _ w =>
          St w ∧ (
            R (.int .i64 0) w
          )
          )
        )
      )
    )
theorem f29 {a0 a1 : Value} {w : World} {R : Value → World → Prop} (h : F29 a0 a1 w R) : Calls Pg 29 #[a0, a1] w (retK R) :=
  fn_sound (args := [a0, a1]) Try.func29 (by kernel_rfl) (annOf [(33, [])]) (of_eq (by kernel_rfl) (by kernel_rfl) h)
theorem c29 {r : Bool} {a0 a1 : Value} {w : World} {K : Value → World → Prop} (h : F29 a0 a1 w K) : callV Pg r (.func (.func 29) #[] #[]) #[a0, a1] w K :=
  call_of Try.func29 (by kernel_rfl) (by kernel_rfl) (by kernel_rfl) (f29 h)

/-- (*hourbook/probe.Table).Slots -/
def F30 (a0 : Value) (w : World) (R : Value → World → Prop) : Prop :=
  callV Pg true (Fv 62) #[a0] w fun t6 w =>
  ifV t6 (
    R (.slice none 0 0) w
    ) (
    pureP Pg (nilS a0) fun t8 =>
    pureP Pg (Instr.fieldAt 153 t8 1) fun t9 =>
    getO (loadW Pg 93 t9 w) fun t10 =>
    callV Pg true (Fv 68) #[t10] w fun t11 w =>
    pureP Pg (Builtin.len_ #[93] 3 #[t11]) fun t13 =>
    loopP [(.int .i64 0)] w fun s16 w next16 => -- t14
    pureP Pg (binS .lss 3 (nthV s16 0) t13) fun t15 =>
    ifV t15 (
      pureP Pg (Instr.indexAt 93 t11 (nthV s16 0)) fun t21 =>
      pureP Pg (Instr.fieldAt 96 t21 1) fun t22 =>
      getO (loadW Pg 36 t22 w) fun t23 =>
      callV Pg true (Fv 37) #[t23] w fun t24 w =>
      pureP Pg (Instr.indexAt 93 t11 (nthV s16 0)) fun t25 =>
      pureP Pg (Instr.fieldAt 96 t25 1) fun t26 =>
      getU (storeW Pg 36 t26 t24 w) fun w =>
      pureP Pg (binS .add 3 (nthV s16 0) (.int .i64 1)) fun t27 =>
      next16 [t27] w
      ) (
      R t11 w
      )
    )
theorem f30 {a0 : Value} {w : World} {R : Value → World → Prop} (h : F30 a0 w R) : Calls Pg 30 #[a0] w (retK R) :=
  fn_sound (args := [a0]) Try.func30 (by kernel_rfl) (annOf [(16, [14])]) (of_eq (by kernel_rfl) (by kernel_rfl) h)
theorem c30 {r : Bool} {a0 : Value} {w : World} {K : Value → World → Prop} (h : F30 a0 w K) : callV Pg r (.func (.func 30) #[] #[]) #[a0] w K :=
  call_of Try.func30 (by kernel_rfl) (by kernel_rfl) (by kernel_rfl) (f30 h)

/-- (*hourbook/probe.Table).Len -/
def F31 (a0 : Value) (w : World) (R : Value → World → Prop) : Prop :=
  callV Pg true (Fv 62) #[a0] w fun t4 w =>
  ifV t4 (
    R (.int .i64 0) w
    ) (
    pureP Pg (nilS a0) fun t6 =>
    pureP Pg (Instr.fieldAt 153 t6 2) fun t7 =>
    getO (loadW Pg 3 t7 w) fun t8 =>
    R t8 w
    )
theorem f31 {a0 : Value} {w : World} {R : Value → World → Prop} (h : F31 a0 w R) : Calls Pg 31 #[a0] w (retK R) :=
  fn_sound (args := [a0]) Try.func31 (by kernel_rfl) (fun _ => none) (of_eq (by kernel_rfl) (by kernel_rfl) h)
theorem c31 {r : Bool} {a0 : Value} {w : World} {K : Value → World → Prop} (h : F31 a0 w K) : callV Pg r (.func (.func 31) #[] #[]) #[a0] w K :=
  call_of Try.func31 (by kernel_rfl) (by kernel_rfl) (by kernel_rfl) (f31 h)

/-- hourbook/key.Hash -/
def F32 (a0 a1 : Value) (w : World) (R : Value → World → Prop) : Prop :=
  pureP Pg (Builtin.len_ #[36] 3 #[a1]) fun t10 =>
  pureP Pg (convert 3 35 t10) fun t11 =>
  pureP Pg (binS .mul 35 t11 (.int .u64 11400714819323198485)) fun t12 =>
  pureP Pg (binS .xor 35 a0 t12) fun t13 =>
  newP (zeroT Pg 35) 35 w fun t5 w =>
  getU (storeW Pg 35 t5 t13 w) fun w =>
  callV Pg true (Fv 69) #[a1] w fun t15 w =>
  rangeP Pg 2 t15 w (fun xs w next =>
    getO (loadW Pg 35 t5 w) fun t18 =>
    pureP Pg (binS .xor 35 t18 (nthV xs 1)) fun t20 =>
    pureP Pg (binS .mul 35 t20 (.int .u64 13787848793156543929)) fun t21 =>
    getU (storeW Pg 35 t5 t21 w) fun w =>
    getO (loadW Pg 35 t5 w) fun t22 =>
    getO (loadW Pg 35 t5 w) fun t23 =>
    pureP Pg (binS .shr 35 t23 (.int .u64 32)) fun t24 =>
    pureP Pg (binS .xor 35 t22 t24) fun t25 =>
    getU (storeW Pg 35 t5 t25 w) fun w =>
    next w
    ) fun w D8 =>
  getO (loadW Pg 35 t5 w) fun t26 =>
  takeD Pg D8 w fun w =>
  R t26 w
theorem f32 {a0 a1 : Value} {w : World} {R : Value → World → Prop} (h : F32 a0 a1 w R) : Calls Pg 32 #[a0, a1] w (retK R) :=
  fn_sound (args := [a0, a1]) Try.func32 (by kernel_rfl) (fun _ => none) (of_eq (by kernel_rfl) (by kernel_rfl) h)
theorem c32 {r : Bool} {a0 a1 : Value} {w : World} {K : Value → World → Prop} (h : F32 a0 a1 w K) : callV Pg r (.func (.func 32) #[] #[]) #[a0, a1] w K :=
  call_of Try.func32 (by kernel_rfl) (by kernel_rfl) (by kernel_rfl) (f32 h)

/-- hourbook/key.Compare -/
def F33 (a0 a1 : Value) (w : World) (R : Value → World → Prop) : Prop :=
  callV Pg true (Fv 70) #[a0, a1] w fun t7 w =>
  R t7 w
theorem f33 {a0 a1 : Value} {w : World} {R : Value → World → Prop} (h : F33 a0 a1 w R) : Calls Pg 33 #[a0, a1] w (retK R) :=
  fn_sound (args := [a0, a1]) Try.func33 (by kernel_rfl) (fun _ => none) (of_eq (by kernel_rfl) (by kernel_rfl) h)
theorem c33 {r : Bool} {a0 a1 : Value} {w : World} {K : Value → World → Prop} (h : F33 a0 a1 w K) : callV Pg r (.func (.func 33) #[] #[]) #[a0, a1] w K :=
  call_of Try.func33 (by kernel_rfl) (by kernel_rfl) (by kernel_rfl) (f33 h)

/-- (*hourbook/probe.Table).Get -/
def F34 (a0 a1 : Value) (w : World) (R : Value → World → Prop) : Prop :=
  callV Pg true (Fv 62) #[a0] w fun t10 w =>
  ifV t10 (
    R (.tuple #[(.int .u64 0), (.bool false)]) w
    ) (
    callV Pg true (Fv 63) #[a0, a1] w fun t14 w =>
    pureP Pg (Instr.extract t14 0) fun t15 =>
    pureP Pg (Instr.extract t14 1) fun _ =>
    pureP Pg (nilS a0) fun t18 =>
    pureP Pg (Instr.fieldAt 153 t18 1) fun t19 =>
    getO (loadW Pg 93 t19 w) fun t20 =>
    pureP Pg (Instr.indexAt 93 t20 t15) fun t22 =>
    getO (loadW Pg 96 t22 w) fun t23 =>
    newP (zeroT Pg 96) 96 w fun t8 w =>
    getU (storeW Pg 96 t8 t23 w) fun w =>
    pureP Pg (Instr.fieldAt 96 t8 0) fun t24 =>
    getO (loadW Pg 4 t24 w) fun t25 =>
    ifV t25 (
      pureP Pg (Instr.fieldAt 96 t8 1) fun t27 =>
      getO (loadW Pg 36 t27 w) fun t28 =>
      callV Pg true (Fv 43) #[t28, a1] w fun t30 w =>
      ifV t30 (
        pureP Pg (Instr.fieldAt 96 t8 2) fun t32 =>
        getO (loadW Pg 35 t32 w) fun t33 =>
        R (.tuple #[t33, (.bool true)]) w
        ) (
        R (.tuple #[(.int .u64 0), (.bool false)]) w
        )
      ) (
      R (.tuple #[(.int .u64 0), (.bool false)]) w
      )
    )
theorem f34 {a0 a1 : Value} {w : World} {R : Value → World → Prop} (h : F34 a0 a1 w R) : Calls Pg 34 #[a0, a1] w (retK R) :=
  fn_sound (args := [a0, a1]) Try.func34 (by kernel_rfl) (fun _ => none) (of_eq (by kernel_rfl) (by kernel_rfl) h)
theorem c34 {r : Bool} {a0 a1 : Value} {w : World} {K : Value → World → Prop} (h : F34 a0 a1 w K) : callV Pg r (.func (.func 34) #[] #[]) #[a0, a1] w K :=
  call_of Try.func34 (by kernel_rfl) (by kernel_rfl) (by kernel_rfl) (f34 h)

/-- hourbook/hourbooklaw14.knows -/
def F35 (w : World) (R : Value → World → Prop) : Prop :=
  callV Pg true (Fv 27) #[(.int .u64 0)] w fun t7 w =>
  loopP [(.int .u8 0)] w fun s8 w next8 => -- t2
  pureP Pg (binS .lss 5 (nthV s8 0) (.int .u8 6)) fun t9 =>
  ifV t9 (
    S Pg (Instr.buildSlice 36 1 #[(0, (nthV s8 0))]) w fun t14 w =>
    pureP Pg (convert 5 35 (nthV s8 0)) fun t16 =>
    callV Pg true (Fv 28) #[t7, t14, t16] w fun t17 w =>
    pureP Pg (binS .neq 30 t17 (.int .i64 0)) fun t18 =>
    ifV t18 (
      R (.bool false) w
      ) (
      pureP Pg (binS .add 5 (nthV s8 0) (.int .u8 1)) fun t11 =>
      next8 [t11] w
      )
    ) (
    callV Pg true (Fv 30) #[t7] w fun t20 w =>
    pureP Pg (Builtin.len_ #[93] 3 #[t20]) fun t21 =>
    S Pg (Instr.buildSlice 36 1 #[(0, (.int .u8 9))]) w fun t23 w =>
    callV Pg true (Fv 28) #[t7, t23, (.int .u64 9)] w fun _ w =>
    callV Pg true (Fv 30) #[t7] w fun t26 w =>
    pureP Pg (Builtin.len_ #[93] 3 #[t26]) fun t27 =>
    S Pg (Instr.buildSlice 36 1 #[(0, (.int .u8 9))]) w fun t29 w =>
    callV Pg true (Fv 29) #[t7, t29] w fun _ w =>
    S Pg (Instr.buildSlice 36 1 #[(0, (.int .u8 9))]) w fun t33 w =>
    callV Pg true (Fv 34) #[t7, t33] w fun t34 w =>
    pureP Pg (Instr.extract t34 0) fun _ =>
    pureP Pg (Instr.extract t34 1) fun t36 =>
    pureP Pg (binS .eql 3 t21 (.int .i64 8)) fun t38 =>
    ifV t38 (
      pureP Pg (binS .eql 3 t27 (.int .i64 16)) fun t41 =>
      ifV t41 (
        callV Pg true (Fv 30) #[t7] w fun t45 w =>
        pureP Pg (Builtin.len_ #[93] 3 #[t45]) fun t46 =>
        pureP Pg (binS .eql 3 t46 (.int .i64 8)) fun t47 =>
        ifV t47 (
          pureP Pg (Op.unary .not t36) fun t51 =>
          R t51 w
          ) (
          R (.bool false) w
          )
        ) (
        R (.bool false) w
        )
      ) (
      R (.bool false) w
      )
    )
theorem f35 {w : World} {R : Value → World → Prop} (h : F35 w R) : Calls Pg 35 #[] w (retK R) :=
  fn_sound (args := []) Try.func35 (by kernel_rfl) (annOf [(8, [2])]) (of_eq (by kernel_rfl) (by kernel_rfl) h)
theorem c35 {r : Bool} {w : World} {K : Value → World → Prop} (h : F35 w K) : callV Pg r (.func (.func 35) #[] #[]) #[] w K :=
  call_of Try.func35 (by kernel_rfl) (by kernel_rfl) (by kernel_rfl) (f35 h)

/-- hourbook/hourbooklaw25.few -/
def F36 (a0 : Value) (w : World) (R : Value → World → Prop) : Prop :=
  pureP Pg (Builtin.len_ #[63] 3 #[a0]) fun t7 =>
  loopP [(.slice none 0 0), (.int .i64 0)] w fun s8 w next8 => -- t3 t8
  pureP Pg (binS .lss 3 (nthV s8 1) t7) fun t9 =>
  ifV t9 (
    pureP Pg (Instr.indexAt 63 a0 (nthV s8 1)) fun t11 =>
    getO (loadW Pg 79 t11 w) fun t12 =>
    newP (zeroT Pg 79) 79 w fun t5 w =>
    getU (storeW Pg 79 t5 t12 w) fun w =>
    pureP Pg (binS .eql 3 (nthV s8 1) (.int .i64 60)) fun t14 =>
    ifV t14 (
      R (nthV s8 0) w
      ) (
      pureP Pg (Instr.fieldAt 79 t5 0) fun t15 =>
      getO (loadW Pg 36 t15 w) fun t16 =>
      pureP Pg (Instr.fieldAt 79 t5 0) fun t17 =>
      getO (loadW Pg 36 t17 w) fun t18 =>
      pureP Pg (Builtin.len_ #[36] 3 #[t18]) fun t19 =>
      pureP Pg (Builtin.min_ #[3, 3] 3 #[t19, (.int .i64 70)]) fun t20 =>
      pureP Pg (Instr.sliceAt 36 t16 none (some t20) none) fun t21 =>
      pureP Pg (Instr.fieldAt 79 t5 0) fun t22 =>
      getU (storeW Pg 36 t22 t21 w) fun w =>
      getO (loadW Pg 79 t5 w) fun t24 =>
      S Pg (Instr.buildSlice 63 1 #[(0, t24)]) w fun t25 w =>
      S Pg (Builtin.append_ #[63, 63] 63 #[(nthV s8 0), t25]) w fun t26 w =>
      pureP Pg (binS .add 3 (nthV s8 1) (.int .i64 1)) fun t27 =>
      next8 [t26, t27] w
      )
    ) (
    R (nthV s8 0) w
    )
theorem f36 {a0 : Value} {w : World} {R : Value → World → Prop} (h : F36 a0 w R) : Calls Pg 36 #[a0] w (retK R) :=
  fn_sound (args := [a0]) Try.func36 (by kernel_rfl) (annOf [(8, [3,8])]) (of_eq (by kernel_rfl) (by kernel_rfl) h)
theorem c36 {r : Bool} {a0 : Value} {w : World} {K : Value → World → Prop} (h : F36 a0 w K) : callV Pg r (.func (.func 36) #[] #[]) #[a0] w K :=
  call_of Try.func36 (by kernel_rfl) (by kernel_rfl) (by kernel_rfl) (f36 h)

/-- bytes.Clone -/
def F37 (a0 : Value) (w : World) (R : Value → World → Prop) : Prop :=
  pureP Pg (binS .eql 36 a0 (.slice none 0 0)) fun t4 =>
  ifV t4 (
    R (.slice none 0 0) w
    ) (
    S Pg (Instr.buildSlice 36 0 #[]) w fun t5 w =>
    S Pg (Builtin.append_ #[36, 36] 36 #[t5, a0]) w fun t7 w =>
    R t7 w
    )
theorem f37 {a0 : Value} {w : World} {R : Value → World → Prop} (h : F37 a0 w R) : Calls Pg 37 #[a0] w (retK R) :=
  fn_sound (args := [a0]) Try.func37 (by kernel_rfl) (fun _ => none) (of_eq (by kernel_rfl) (by kernel_rfl) h)
theorem c37 {r : Bool} {a0 : Value} {w : World} {K : Value → World → Prop} (h : F37 a0 w K) : callV Pg r (.func (.func 37) #[] #[]) #[a0] w K :=
  call_of Try.func37 (by kernel_rfl) (by kernel_rfl) (by kernel_rfl) (f37 h)

/-- slices.Clone[[]uint64,uint64] -/
def F38 (a0 : Value) (w : World) (R : Value → World → Prop) : Prop :=
  pureP Pg (binS .eql 66 a0 (.slice none 0 0)) fun t4 =>
  ifV t4 (
    R (.slice none 0 0) w
    ) (
    S Pg (Instr.buildSlice 66 0 #[]) w fun t5 w =>
    S Pg (Builtin.append_ #[66, 66] 66 #[t5, a0]) w fun t7 w =>
    R t7 w
    )
theorem f38 {a0 : Value} {w : World} {R : Value → World → Prop} (h : F38 a0 w R) : Calls Pg 38 #[a0] w (retK R) :=
  fn_sound (args := [a0]) Try.func38 (by kernel_rfl) (fun _ => none) (of_eq (by kernel_rfl) (by kernel_rfl) h)
theorem c38 {r : Bool} {a0 : Value} {w : World} {K : Value → World → Prop} (h : F38 a0 w K) : callV Pg r (.func (.func 38) #[] #[]) #[a0] w K :=
  call_of Try.func38 (by kernel_rfl) (by kernel_rfl) (by kernel_rfl) (f38 h)

/-- hourbook/hourbookref25.Of -/
def F39 (a0 a1 a2 a3 : Value) (w : World) (R : Value → World → Prop) : Prop :=
  newP (zeroT Pg 111) 111 w fun t8 w =>
  callV Pg true (Fv 41) #[a0] w fun t19 w =>
  pureP Pg (Op.unary .not t19) fun t20 =>
  ifV t20 (
    pureP Pg (Instr.build 111 #[]) fun t37 =>
    getU (storeW Pg 111 t8 t37 w) fun w =>
    readW Pg (Instr.loadAt 111 t8) w fun r0 =>
    R (.tuple #[r0, (.int .i64 1)]) w
    ) (
    pureP Pg (binS .lss 3 a2 (.int .i64 4096)) fun t23 =>
    ifV t23 (
      pureP Pg (Instr.build 111 #[]) fun t37_1 =>
      getU (storeW Pg 111 t8 t37_1 w) fun w =>
      readW Pg (Instr.loadAt 111 t8) w fun r0 =>
      R (.tuple #[r0, (.int .i64 1)]) w
      ) (
      pureP Pg (binS .gtr 3 a2 (.int .i64 16777216)) fun t27 =>
      ifV t27 (
        pureP Pg (Instr.build 111 #[]) fun t37_2 =>
        getU (storeW Pg 111 t8 t37_2 w) fun w =>
        readW Pg (Instr.loadAt 111 t8) w fun r0 =>
        R (.tuple #[r0, (.int .i64 1)]) w
        ) (
        pureP Pg (binS .lss 32 a3 (.int .u32 1)) fun t31 =>
        ifV t31 (
          pureP Pg (Instr.build 111 #[]) fun t37_3 =>
          getU (storeW Pg 111 t8 t37_3 w) fun w =>
          readW Pg (Instr.loadAt 111 t8) w fun r0 =>
          R (.tuple #[r0, (.int .i64 1)]) w
          ) (
          pureP Pg (binS .gtr 32 a3 (.int .u32 16777215)) fun t35 =>
          ifV t35 (
            pureP Pg (Instr.build 111 #[]) fun t37_4 =>
            getU (storeW Pg 111 t8 t37_4 w) fun w =>
            readW Pg (Instr.loadAt 111 t8) w fun r0 =>
            R (.tuple #[r0, (.int .i64 1)]) w
            ) (
            newP (zeroT Pg 111) 111 w fun t10 w =>
            loopP [(.int .i64 0)] w fun s16 w next16 => -- t11
            pureP Pg (Builtin.len_ #[105] 3 #[a0]) fun t40 =>
            pureP Pg (binS .lss 3 (nthV s16 0) t40) fun t41 =>
            ifV t41 (
              callV Pg true (Fv 71) #[a0, (nthV s16 0), a1] w fun t47 w =>
              pureP Pg (Op.unary .not t47) fun t48 =>
              ifV t48 (
                pureP Pg (binS .add 3 (nthV s16 0) (.int .i64 1)) fun t43 =>
                next16 [t43] w
                ) (
                pureP Pg (Instr.build 34 #[]) fun t49 =>
                newP (zeroT Pg 34) 34 w fun t12 w =>
                getU (storeW Pg 34 t12 t49 w) fun w =>
                loopP [(.bool false), (.int .i64 0)] w fun s39 w next39 => -- t13 t14
                pureP Pg (Instr.fieldAt 111 t10 0) fun t51 =>
                getO (loadW Pg 109 t51 w) fun t52 =>
                pureP Pg (Builtin.len_ #[109] 3 #[t52]) fun t53 =>
                pureP Pg (binS .lss 3 (nthV s39 1) t53) fun t54 =>
                ifV t54 (
                  ∃ St : World → Prop, St w.drew ∧ drewP w fun w =>
                  pureP Pg (Instr.fieldAt 111 t10 0) fun t58 =>
                  readP St (loadW Pg 109 t58) fun t59 =>
                  pureP Pg (Instr.indexAt 109 t59 (nthV s39 1)) fun t61 =>
                  pureP Pg (Instr.fieldAt 119 t61 0) fun t62 =>
                  readP St (loadW Pg 3 t62) fun t63 =>
                  pureP Pg (Instr.indexAt 105 a0 t63) fun t64 =>
                  readP St (loadW Pg 107 t64) fun t65 =>
                  pureP Pg (Instr.indexAt 105 a0 (nthV s16 0)) fun t68 =>
                  readP St (loadW Pg 107 t68) fun t69 =>
                  callV Pg false (Fv 72) #[t65, t69] w fun t70 w =>
                  St w ∧ (
                    ifV t70 (
                      pureP Pg (Instr.fieldAt 111 t10 0) fun t71 =>
                      getO (loadW Pg 109 t71 w) fun t72 =>
                      pureP Pg (Instr.indexAt 109 t72 (nthV s39 1)) fun t74 =>
                      pureP Pg (Instr.fieldAt 119 t74 1) fun t75 =>
                      getO (loadW Pg 34 t75 w) fun t76 =>
                      getU (storeW Pg 34 t12 t76 w) fun w =>
                      pureP Pg (binS .add 3 (nthV s39 1) (.int .i64 1)) fun t56 =>
                      next39 [(.bool true), t56] w
                      ) (
                      pureP Pg (binS .add 3 (nthV s39 1) (.int .i64 1)) fun t56_1 =>
                      next39 [(nthV s39 0), t56_1] w
                      )
                  )
                  ) (
                  joinP (fun J56 =>
                    pureP Pg (Instr.indexAt 105 a0 (nthV s16 0)) fun t79 =>
                    pureP Pg (Instr.fieldAt 107 t79 2) fun t80 =>
                    getO (loadW Pg 3 t80 w) fun t81 =>
                    pureP Pg (binS .eql 3 t81 (.int .i64 2)) fun t82 =>
                    ifV t82 (
                      pureP Pg (Op.unary .not (nthV s39 0)) fun t85 =>
                      ifV t85 (
                        pureP Pg (binS .add 3 (nthV s16 0) (.int .i64 1)) fun t43_1 =>
                        next16 [t43_1] w
                        ) (
                        J56 [] w
                        )
                      ) (
                      J56 [] w
                      )
                    ) fun _ w =>
                  pureP Pg (Instr.fieldAt 111 t10 1) fun t87 =>
                  getO (loadW Pg 68 t87 w) fun t88 =>
                  pureP Pg (Builtin.len_ #[68] 3 #[t88]) fun t89 =>
                  joinP (fun J64 =>
                    joinP (fun J65 =>
                      ∃ St : World → Prop, St w.drew ∧ drewP w fun w =>
                      pureP Pg (binS .eql 3 t89 (.int .i64 0)) fun t91 =>
                      ifV t91 (
                        J65 [(.bool true)] w
                        ) (
                        pureP Pg (Instr.fieldAt 111 t10 1) fun t93 =>
                        readP St (loadW Pg 68 t93) fun t94 =>
                        pureP Pg (binS .sub 3 t89 (.int .i64 1)) fun t96 =>
                        pureP Pg (Instr.indexAt 68 t94 t96) fun t97 =>
                        pureP Pg (Instr.fieldAt 116 t97 1) fun t98 =>
                        readP St (loadW Pg 32 t98) fun t99 =>
                        pureP Pg (convert 32 3 t99) fun t100 =>
                        pureP Pg (Instr.indexAt 105 a0 (nthV s16 0)) fun t103 =>
                        pureP Pg (Instr.fieldAt 107 t103 3) fun t104 =>
                        readP St (loadW Pg 3 t104) fun t105 =>
                        pureP Pg (binS .add 3 t100 t105) fun t106 =>
                        pureP Pg (binS .gtr 3 t106 a2) fun t108 =>
                        J65 [t108] w
                        )
                      ) fun s65 w =>
                    ifV (nthV s65 0) (
                      ∃ St : World → Prop, St w.drew ∧ drewP w fun w =>
                      pureP Pg (Instr.fieldAt 111 t10 1) fun t110 =>
                      readP St (loadW Pg 68 t110) fun t111 =>
                      pureP Pg (convert 3 32 t89) fun t114 =>
                      pureP Pg (binS .add 32 a3 t114) fun t115 =>
                      pureP Pg (Instr.indexAt 105 a0 (nthV s16 0)) fun t118 =>
                      pureP Pg (Instr.fieldAt 107 t118 1) fun t119 =>
                      readP St (loadW Pg 35 t119) fun t120 =>
                      pureP Pg (Instr.build 116 #[(0, t115), (1, (.int .u32 16)), (3, t120)]) fun t121 =>
                      S Pg (Instr.buildSlice 68 1 #[(0, t121)]) w fun t122 w =>
                      St w ∧ (
                        S Pg (Builtin.append_ #[68, 68] 68 #[t111, t122]) w fun t123 w =>
                        St w ∧ (
                          pureP Pg (Instr.fieldAt 111 t10 1) fun t124 =>
                          getU (storeW Pg 68 t124 t123 w) fun w =>
                          pureP Pg (binS .add 3 t89 (.int .i64 1)) fun t126 =>
                          J64 [t126] w
                        )
                      )
                      ) (
                      J64 [t89] w
                      )
                    ) fun s64 w =>
                  pureP Pg (Instr.fieldAt 111 t10 1) fun t127 =>
                  getO (loadW Pg 68 t127 w) fun t128 =>
                  pureP Pg (binS .sub 3 (nthV s64 0) (.int .i64 1)) fun t130 =>
                  pureP Pg (Instr.indexAt 68 t128 t130) fun t131 =>
                  getO (loadW Pg 116 t131 w) fun t132 =>
                  newP (zeroT Pg 116) 116 w fun t16 w =>
                  getU (storeW Pg 116 t16 t132 w) fun w =>
                  pureP Pg (Instr.fieldAt 111 t10 0) fun t133 =>
                  getO (loadW Pg 109 t133 w) fun t134 =>
                  pureP Pg (Instr.fieldAt 116 t16 0) fun t136 =>
                  getO (loadW Pg 32 t136 w) fun t137 =>
                  pureP Pg (Instr.fieldAt 116 t16 1) fun t138 =>
                  getO (loadW Pg 32 t138 w) fun t139 =>
                  pureP Pg (Instr.build 34 #[(0, t137), (1, t139)]) fun t140 =>
                  getO (loadW Pg 34 t12 w) fun t141 =>
                  pureP Pg (Instr.build 119 #[(0, (nthV s16 0)), (1, t140), (2, t141)]) fun t142 =>
                  S Pg (Instr.buildSlice 109 1 #[(0, t142)]) w fun t143 w =>
                  S Pg (Builtin.append_ #[109, 109] 109 #[t134, t143]) w fun t144 w =>
                  pureP Pg (Instr.fieldAt 111 t10 0) fun t145 =>
                  getU (storeW Pg 109 t145 t144 w) fun w =>
                  ∃ St : World → Prop, St w.drew ∧ drewP w fun w =>
                  pureP Pg (Instr.fieldAt 116 t16 1) fun t146 =>
                  readP St (loadW Pg 32 t146) fun t147 =>
                  pureP Pg (Instr.indexAt 105 a0 (nthV s16 0)) fun t150 =>
                  pureP Pg (Instr.fieldAt 107 t150 3) fun t151 =>
                  readP St (loadW Pg 3 t151) fun t152 =>
                  pureP Pg (convert 3 32 t152) fun t153 =>
                  pureP Pg (binS .add 32 t147 t153) fun t154 =>
                  pureP Pg (Instr.fieldAt 116 t16 1) fun t155 =>
                  getU (storeW Pg 32 t155 t154 w) fun w =>
                  pureP Pg (Instr.fieldAt 116 t16 2) fun t156 =>
                  getO (loadW Pg 32 t156 w) fun t157 =>
                  pureP Pg (binS .add 32 t157 (.int .u32 1)) fun t158 =>
                  pureP Pg (Instr.fieldAt 116 t16 2) fun t159 =>
                  getU (storeW Pg 32 t159 t158 w) fun w =>
                  pureP Pg (Instr.indexAt 105 a0 (nthV s16 0)) fun t162 =>
                  pureP Pg (Instr.fieldAt 107 t162 1) fun t163 =>
                  getO (loadW Pg 35 t163 w) fun t164 =>
                  pureP Pg (Instr.fieldAt 116 t16 4) fun t165 =>
                  getU (storeW Pg 35 t165 t164 w) fun w =>
                  pureP Pg (Instr.fieldAt 111 t10 1) fun t166 =>
                  getO (loadW Pg 68 t166 w) fun t167 =>
                  pureP Pg (binS .sub 3 (nthV s64 0) (.int .i64 1)) fun t169 =>
                  getO (loadW Pg 116 t16 w) fun t170 =>
                  pureP Pg (Instr.indexAt 68 t167 t169) fun t171 =>
                  getU (storeW Pg 116 t171 t170 w) fun w =>
                  pureP Pg (binS .add 3 (nthV s16 0) (.int .i64 1)) fun t43_2 =>
                  next16 [t43_2] w
                  )
                )
              ) (
              pureP Pg (Instr.fieldAt 111 t10 1) fun t172 =>
              getO (loadW Pg 68 t172 w) fun t173 =>
              pureP Pg (Builtin.len_ #[68] 3 #[t173]) fun t174 =>
              pureP Pg (binS .gtr 3 t174 (.int .i64 200)) fun t176 =>
              ifV t176 (
                pureP Pg (Instr.build 111 #[]) fun t191 =>
                getU (storeW Pg 111 t8 t191 w) fun w =>
                readW Pg (Instr.loadAt 111 t8) w fun r0 =>
                R (.tuple #[r0, (.int .i64 7)]) w
                ) (
                pureP Pg (binS .gtr 3 t174 (.int .i64 0)) fun t179 =>
                ifV t179 (
                  pureP Pg (Instr.fieldAt 111 t10 1) fun t181 =>
                  getO (loadW Pg 68 t181 w) fun t182 =>
                  pureP Pg (binS .sub 3 t174 (.int .i64 1)) fun t184 =>
                  pureP Pg (Instr.indexAt 68 t182 t184) fun t185 =>
                  pureP Pg (Instr.fieldAt 116 t185 0) fun t186 =>
                  getO (loadW Pg 32 t186 w) fun t187 =>
                  pureP Pg (binS .geq 32 t187 (.int .u32 16777215)) fun t188 =>
                  ifV t188 (
                    pureP Pg (Instr.build 111 #[]) fun t191_1 =>
                    getU (storeW Pg 111 t8 t191_1 w) fun w =>
                    readW Pg (Instr.loadAt 111 t8) w fun r0 =>
                    R (.tuple #[r0, (.int .i64 7)]) w
                    ) (
                    getO (loadW Pg 111 t10 w) fun t192 =>
                    getU (storeW Pg 111 t8 t192 w) fun w =>
                    readW Pg (Instr.loadAt 111 t8) w fun r0 =>
                    R (.tuple #[r0, (.int .i64 0)]) w
                    )
                  ) (
                  getO (loadW Pg 111 t10 w) fun t192_1 =>
                  getU (storeW Pg 111 t8 t192_1 w) fun w =>
                  readW Pg (Instr.loadAt 111 t8) w fun r0 =>
                  R (.tuple #[r0, (.int .i64 0)]) w
                  )
                )
              )
            )
          )
        )
      )
    )
theorem f39 {a0 a1 a2 a3 : Value} {w : World} {R : Value → World → Prop} (h : F39 a0 a1 a2 a3 w R) : Calls Pg 39 #[a0, a1, a2, a3] w (retK R) :=
  fn_sound (args := [a0, a1, a2, a3]) Try.func39 (by kernel_rfl) (annOf [(16, [11]), (39, [13,14]), (56, []), (64, [15]), (65, [109])]) (of_eq (by kernel_rfl) (by kernel_rfl) h)
theorem c39 {r : Bool} {a0 a1 a2 a3 : Value} {w : World} {K : Value → World → Prop} (h : F39 a0 a1 a2 a3 w K) : callV Pg r (.func (.func 39) #[] #[]) #[a0, a1, a2, a3] w K :=
  call_of Try.func39 (by kernel_rfl) (by kernel_rfl) (by kernel_rfl) (f39 h)

/-- slices.Equal[[]hourbook/api.Seal,hourbook/api.Seal] -/
def F40 (a0 a1 : Value) (w : World) (R : Value → World → Prop) : Prop :=
  pureP Pg (Builtin.len_ #[68] 3 #[a0]) fun t7 =>
  pureP Pg (Builtin.len_ #[68] 3 #[a1]) fun t9 =>
  pureP Pg (binS .neq 3 t7 t9) fun t10 =>
  ifV t10 (
    R (.bool false) w
    ) (
    pureP Pg (Builtin.len_ #[68] 3 #[a0]) fun t12 =>
    loopP [(.int .i64 0)] w fun s14 w next14 => -- t13
    pureP Pg (binS .lss 3 (nthV s14 0) t12) fun t14 =>
    ifV t14 (
      ∃ St : World → Prop, St w.drew ∧ drewP w fun w =>
      pureP Pg (Instr.indexAt 68 a0 (nthV s14 0)) fun t18 =>
      readP St (loadW Pg 116 t18) fun t19 =>
      pureP Pg (Instr.indexAt 68 a1 (nthV s14 0)) fun t22 =>
      readP St (loadW Pg 116 t22) fun t23 =>
      pureP Pg (binS .neq 116 t19 t23) fun t24 =>
      ifV t24 (
        R (.bool false) w
        ) (
        pureP Pg (binS .add 3 (nthV s14 0) (.int .i64 1)) fun t25 =>
        next14 [t25] w
        )
      ) (
      R (.bool true) w
      )
    )
theorem f40 {a0 a1 : Value} {w : World} {R : Value → World → Prop} (h : F40 a0 a1 w R) : Calls Pg 40 #[a0, a1] w (retK R) :=
  fn_sound (args := [a0, a1]) Try.func40 (by kernel_rfl) (annOf [(14, [13])]) (of_eq (by kernel_rfl) (by kernel_rfl) h)
theorem c40 {r : Bool} {a0 a1 : Value} {w : World} {K : Value → World → Prop} (h : F40 a0 a1 w K) : callV Pg r (.func (.func 40) #[] #[]) #[a0, a1] w K :=
  call_of Try.func40 (by kernel_rfl) (by kernel_rfl) (by kernel_rfl) (f40 h)

/-- hourbook/hourbookref25.May -/
def F41 (a0 : Value) (w : World) (R : Value → World → Prop) : Prop :=
  loopP [(.int .i64 0)] w fun s6 w next6 => -- t3
  pureP Pg (Builtin.len_ #[105] 3 #[a0]) fun t7 =>
  pureP Pg (binS .lss 3 (nthV s6 0) t7) fun t8 =>
  ifV t8 (
    pureP Pg (Instr.indexAt 105 a0 (nthV s6 0)) fun t13 =>
    getO (loadW Pg 107 t13 w) fun t14 =>
    newP (zeroT Pg 107) 107 w fun t4 w =>
    getU (storeW Pg 107 t4 t14 w) fun w =>
    pureP Pg (Instr.fieldAt 107 t4 0) fun t15 =>
    getO (loadW Pg 36 t15 w) fun t16 =>
    pureP Pg (Builtin.len_ #[36] 3 #[t16]) fun t17 =>
    pureP Pg (binS .lss 3 t17 (.int .i64 1)) fun t18 =>
    ifV t18 (
      R (.bool false) w
      ) (
      pureP Pg (Instr.fieldAt 107 t4 0) fun t20 =>
      getO (loadW Pg 36 t20 w) fun t21 =>
      pureP Pg (Builtin.len_ #[36] 3 #[t21]) fun t22 =>
      pureP Pg (binS .gtr 3 t22 (.int .i64 64)) fun t23 =>
      ifV t23 (
        R (.bool false) w
        ) (
        pureP Pg (Instr.fieldAt 107 t4 1) fun t26 =>
        getO (loadW Pg 35 t26 w) fun t27 =>
        pureP Pg (binS .lss 35 t27 (.int .u64 1)) fun t28 =>
        ifV t28 (
          R (.bool false) w
          ) (
          pureP Pg (Instr.fieldAt 107 t4 1) fun t31 =>
          getO (loadW Pg 35 t31 w) fun t32 =>
          pureP Pg (binS .gtr 35 t32 (.int .u64 1099511627776)) fun t33 =>
          ifV t33 (
            R (.bool false) w
            ) (
            pureP Pg (Instr.fieldAt 107 t4 2) fun t36 =>
            getO (loadW Pg 3 t36 w) fun t37 =>
            pureP Pg (binS .lss 3 t37 (.int .i64 1)) fun t38 =>
            ifV t38 (
              R (.bool false) w
              ) (
              pureP Pg (Instr.fieldAt 107 t4 2) fun t41 =>
              getO (loadW Pg 3 t41 w) fun t42 =>
              pureP Pg (binS .gtr 3 t42 (.int .i64 2)) fun t43 =>
              ifV t43 (
                R (.bool false) w
                ) (
                pureP Pg (Instr.fieldAt 107 t4 3) fun t46 =>
                getO (loadW Pg 3 t46 w) fun t47 =>
                pureP Pg (binS .lss 3 t47 (.int .i64 25)) fun t48 =>
                ifV t48 (
                  R (.bool false) w
                  ) (
                  pureP Pg (Instr.fieldAt 107 t4 3) fun t51 =>
                  getO (loadW Pg 3 t51 w) fun t52 =>
                  pureP Pg (binS .gtr 3 t52 (.int .i64 1113)) fun t53 =>
                  ifV t53 (
                    R (.bool false) w
                    ) (
                    ∃ St : World → Prop, St w.drew ∧ drewP w fun w =>
                    pureP Pg (binS .gtr 3 (nthV s6 0) (.int .i64 0)) fun t56 =>
                    ifV t56 (
                      pureP Pg (binS .sub 3 (nthV s6 0) (.int .i64 1)) fun t60 =>
                      pureP Pg (Instr.indexAt 105 a0 t60) fun t61 =>
                      pureP Pg (Instr.fieldAt 107 t61 1) fun t62 =>
                      readP St (loadW Pg 35 t62) fun t63 =>
                      pureP Pg (Instr.fieldAt 107 t4 1) fun t64 =>
                      readP St (loadW Pg 35 t64) fun t65 =>
                      pureP Pg (binS .geq 35 t63 t65) fun t66 =>
                      ifV t66 (
                        R (.bool false) w
                        ) (
                        pureP Pg (binS .add 3 (nthV s6 0) (.int .i64 1)) fun t10 =>
                        next6 [t10] w
                        )
                      ) (
                      pureP Pg (binS .add 3 (nthV s6 0) (.int .i64 1)) fun t10_1 =>
                      next6 [t10_1] w
                      )
                    )
                  )
                )
              )
            )
          )
        )
      )
    ) (
    R (.bool true) w
    )
theorem f41 {a0 : Value} {w : World} {R : Value → World → Prop} (h : F41 a0 w R) : Calls Pg 41 #[a0] w (retK R) :=
  fn_sound (args := [a0]) Try.func41 (by kernel_rfl) (annOf [(6, [3])]) (of_eq (by kernel_rfl) (by kernel_rfl) h)
theorem c41 {r : Bool} {a0 : Value} {w : World} {K : Value → World → Prop} (h : F41 a0 w K) : callV Pg r (.func (.func 41) #[] #[]) #[a0] w K :=
  call_of Try.func41 (by kernel_rfl) (by kernel_rfl) (by kernel_rfl) (f41 h)

/-- slices.Equal[[]uint64,uint64] -/
def F42 (a0 a1 : Value) (w : World) (R : Value → World → Prop) : Prop :=
  pureP Pg (Builtin.len_ #[66] 3 #[a0]) fun t7 =>
  pureP Pg (Builtin.len_ #[66] 3 #[a1]) fun t9 =>
  pureP Pg (binS .neq 3 t7 t9) fun t10 =>
  ifV t10 (
    R (.bool false) w
    ) (
    pureP Pg (Builtin.len_ #[66] 3 #[a0]) fun t12 =>
    loopP [(.int .i64 0)] w fun s14 w next14 => -- t13
    pureP Pg (binS .lss 3 (nthV s14 0) t12) fun t14 =>
    ifV t14 (
      ∃ St : World → Prop, St w.drew ∧ drewP w fun w =>
      pureP Pg (Instr.indexAt 66 a0 (nthV s14 0)) fun t18 =>
      readP St (loadW Pg 35 t18) fun t19 =>
      pureP Pg (Instr.indexAt 66 a1 (nthV s14 0)) fun t22 =>
      readP St (loadW Pg 35 t22) fun t23 =>
      pureP Pg (binS .neq 35 t19 t23) fun t24 =>
      ifV t24 (
        R (.bool false) w
        ) (
        pureP Pg (binS .add 3 (nthV s14 0) (.int .i64 1)) fun t25 =>
        next14 [t25] w
        )
      ) (
      R (.bool true) w
      )
    )
theorem f42 {a0 a1 : Value} {w : World} {R : Value → World → Prop} (h : F42 a0 a1 w R) : Calls Pg 42 #[a0, a1] w (retK R) :=
  fn_sound (args := [a0, a1]) Try.func42 (by kernel_rfl) (annOf [(14, [13])]) (of_eq (by kernel_rfl) (by kernel_rfl) h)
theorem c42 {r : Bool} {a0 a1 : Value} {w : World} {K : Value → World → Prop} (h : F42 a0 a1 w K) : callV Pg r (.func (.func 42) #[] #[]) #[a0, a1] w K :=
  call_of Try.func42 (by kernel_rfl) (by kernel_rfl) (by kernel_rfl) (f42 h)

/-- bytes.Equal -/
def F43 (a0 a1 : Value) (w : World) (R : Value → World → Prop) : Prop :=
  getO (runR Pg (convert 36 9 a0) w) fun t6 =>
  getO (runR Pg (convert 36 9 a1) w) fun t8 =>
  pureP Pg (binS .eql 9 t6 t8) fun t9 =>
  R t9 w
theorem f43 {a0 a1 : Value} {w : World} {R : Value → World → Prop} (h : F43 a0 a1 w R) : Calls Pg 43 #[a0, a1] w (retK R) :=
  fn_sound (args := [a0, a1]) Try.func43 (by kernel_rfl) (fun _ => none) (of_eq (by kernel_rfl) (by kernel_rfl) h)
theorem c43 {r : Bool} {a0 a1 : Value} {w : World} {K : Value → World → Prop} (h : F43 a0 a1 w K) : callV Pg r (.func (.func 43) #[] #[]) #[a0, a1] w K :=
  call_of Try.func43 (by kernel_rfl) (by kernel_rfl) (by kernel_rfl) (f43 h)

/-- hourbook/hourbooklaw18.put -/
def F44 (a0 a1 a2 a3 : Value) (w : World) (R : Value → World → Prop) : Prop :=
  newP (some a3) 34 w fun t7 w =>
  newP (zeroT Pg 40) 40 w fun t8 w =>
  ∃ St : World → Prop, St w.drew ∧ drewP w fun w =>
  readP St (loadW Pg 34 t7) fun t14 =>
  (
    callV Pg false (Fv 52) #[a2] w fun t10 w =>
    St w ∧ (
      S Pg (convert 9 36 a1) w fun t13 w =>
      St w ∧ (
        pureP Pg (Instr.build 38 #[(0, a0), (1, (.int .i64 1)), (2, t13), (4, t14)]) fun t15 =>
        pureP Pg (Instr.build 40 #[(0, t10), (2, t15)]) fun t16 =>
        getU (storeW Pg 40 t8 t16 w) fun w =>
        readW Pg (Instr.loadAt 40 t8) w fun r0 =>
        R r0 w
      )
    )
  ) ∧
  (
    S Pg (convert 9 36 a1) w fun t13_1 w =>
    St w ∧ (
      pureP Pg (Instr.build 38 #[(0, a0), (1, (.int .i64 1)), (2, t13_1), (4, t14)]) fun t15_1 =>
      callV Pg false (Fv 52) #[a2] w fun t10_1 w =>
      St w ∧ (
        pureP Pg (Instr.build 40 #[(0, t10_1), (2, t15_1)]) fun t16_1 =>
        getU (storeW Pg 40 t8 t16_1 w) fun w =>
        readW Pg (Instr.loadAt 40 t8) w fun r0 =>
        R r0 w
      )
    )
  )
theorem f44 {a0 a1 a2 a3 : Value} {w : World} {R : Value → World → Prop} (h : F44 a0 a1 a2 a3 w R) : Calls Pg 44 #[a0, a1, a2, a3] w (retK R) :=
  fn_sound (args := [a0, a1, a2, a3]) Try.func44 (by kernel_rfl) (fun _ => none) (of_eq (by kernel_rfl) (by kernel_rfl) h)
theorem c44 {r : Bool} {a0 a1 a2 a3 : Value} {w : World} {K : Value → World → Prop} (h : F44 a0 a1 a2 a3 w K) : callV Pg r (.func (.func 44) #[] #[]) #[a0, a1, a2, a3] w K :=
  call_of Try.func44 (by kernel_rfl) (by kernel_rfl) (by kernel_rfl) (f44 h)

/-- (*hourbook/link.Links).none -/
def F45 (a0 : Value) (w : World) (R : Value → World → Prop) : Prop :=
  pureP Pg (binS .eql 27 a0 (.pointer none)) fun t4 =>
  ifV t4 (
    R (.bool true) w
    ) (
    pureP Pg (nilS a0) fun t7 =>
    pureP Pg (Instr.fieldAt 128 t7 0) fun t8 =>
    getO (loadW Pg 125 t8 w) fun t9 =>
    pureP Pg (binS .eql 125 t9 (.map none)) fun t10 =>
    R t10 w
    )
theorem f45 {a0 : Value} {w : World} {R : Value → World → Prop} (h : F45 a0 w R) : Calls Pg 45 #[a0] w (retK R) :=
  fn_sound (args := [a0]) Try.func45 (by kernel_rfl) (fun _ => none) (of_eq (by kernel_rfl) (by kernel_rfl) h)
theorem c45 {r : Bool} {a0 : Value} {w : World} {K : Value → World → Prop} (h : F45 a0 w K) : callV Pg r (.func (.func 45) #[] #[]) #[a0] w K :=
  call_of Try.func45 (by kernel_rfl) (by kernel_rfl) (by kernel_rfl) (f45 h)

/-- hourbook/record.May -/
def F46 (a0 : Value) (w : World) (R : Value → World → Prop) : Prop :=
  newP (some a0) 38 w fun t1 w =>
  joinP (fun J2 =>
    pureP Pg (Instr.fieldAt 38 t1 1) fun t4 =>
    getO (loadW Pg 3 t4 w) fun t5 =>
    pureP Pg (binS .eql 3 t5 (.int .i64 1)) fun t6 =>
    ifV t6 (
      J2 [(.bool true)] w
      ) (
      pureP Pg (Instr.fieldAt 38 t1 1) fun t8 =>
      getO (loadW Pg 3 t8 w) fun t9 =>
      pureP Pg (binS .eql 3 t9 (.int .i64 2)) fun t10 =>
      ifV t10 (
        pureP Pg (Instr.fieldAt 38 t1 3) fun t12 =>
        getO (loadW Pg 36 t12 w) fun t13 =>
        pureP Pg (Builtin.len_ #[36] 3 #[t13]) fun t14 =>
        pureP Pg (binS .eql 3 t14 (.int .i64 0)) fun t15 =>
        J2 [t15] w
        ) (
        J2 [(.bool false)] w
        )
      )
    ) fun s2 w =>
  ifV (nthV s2 0) (
    pureP Pg (Instr.fieldAt 38 t1 0) fun t20 =>
    getO (loadW Pg 35 t20 w) fun t21 =>
    pureP Pg (binS .geq 35 t21 (.int .u64 1)) fun t22 =>
    ifV t22 (
      pureP Pg (Instr.fieldAt 38 t1 0) fun t25 =>
      getO (loadW Pg 35 t25 w) fun t26 =>
      pureP Pg (binS .leq 35 t26 (.int .u64 1099511627776)) fun t27 =>
      ifV t27 (
        pureP Pg (Instr.fieldAt 38 t1 2) fun t30 =>
        getO (loadW Pg 36 t30 w) fun t31 =>
        callV Pg true (Fv 50) #[t31] w fun t32 w =>
        ifV t32 (
          pureP Pg (Instr.fieldAt 38 t1 3) fun t35 =>
          getO (loadW Pg 36 t35 w) fun t36 =>
          callV Pg true (Fv 73) #[t36] w fun t37 w =>
          ifV t37 (
            pureP Pg (Instr.fieldAt 38 t1 4) fun t40 =>
            getO (loadW Pg 34 t40 w) fun t41 =>
            callV Pg true (Fv 47) #[t41] w fun t42 w =>
            R t42 w
            ) (
            R (.bool false) w
            )
          ) (
          R (.bool false) w
          )
        ) (
        R (.bool false) w
        )
      ) (
      R (.bool false) w
      )
    ) (
    R (.bool false) w
    )
theorem f46 {a0 : Value} {w : World} {R : Value → World → Prop} (h : F46 a0 w R) : Calls Pg 46 #[a0] w (retK R) :=
  fn_sound (args := [a0]) Try.func46 (by kernel_rfl) (annOf [(2, [3])]) (of_eq (by kernel_rfl) (by kernel_rfl) h)
theorem c46 {r : Bool} {a0 : Value} {w : World} {K : Value → World → Prop} (h : F46 a0 w K) : callV Pg r (.func (.func 46) #[] #[]) #[a0] w K :=
  call_of Try.func46 (by kernel_rfl) (by kernel_rfl) (by kernel_rfl) (f46 h)

/-- hourbook/loc.May -/
def F47 (a0 : Value) (w : World) (R : Value → World → Prop) : Prop :=
  newP (some a0) 34 w fun t1 w =>
  getO (loadW Pg 34 t1 w) fun t3 =>
  callV Pg true (Fv 48) #[t3] w fun t4 w =>
  ifV t4 (
    R (.bool true) w
    ) (
    getO (loadW Pg 34 t1 w) fun t6 =>
    callV Pg true (Fv 74) #[t6] w fun t7 w =>
    R t7 w
    )
theorem f47 {a0 : Value} {w : World} {R : Value → World → Prop} (h : F47 a0 w R) : Calls Pg 47 #[a0] w (retK R) :=
  fn_sound (args := [a0]) Try.func47 (by kernel_rfl) (fun _ => none) (of_eq (by kernel_rfl) (by kernel_rfl) h)
theorem c47 {r : Bool} {a0 : Value} {w : World} {K : Value → World → Prop} (h : F47 a0 w K) : callV Pg r (.func (.func 47) #[] #[]) #[a0] w K :=
  call_of Try.func47 (by kernel_rfl) (by kernel_rfl) (by kernel_rfl) (f47 h)

/-- hourbook/loc.None -/
def F48 (a0 : Value) (w : World) (R : Value → World → Prop) : Prop :=
  newP (some a0) 34 w fun t1 w =>
  getO (loadW Pg 34 t1 w) fun t3 =>
  pureP Pg (Instr.build 34 #[]) fun t4 =>
  pureP Pg (binS .eql 34 t3 t4) fun t5 =>
  R t5 w
theorem f48 {a0 : Value} {w : World} {R : Value → World → Prop} (h : F48 a0 w R) : Calls Pg 48 #[a0] w (retK R) :=
  fn_sound (args := [a0]) Try.func48 (by kernel_rfl) (fun _ => none) (of_eq (by kernel_rfl) (by kernel_rfl) h)
theorem c48 {r : Bool} {a0 : Value} {w : World} {K : Value → World → Prop} (h : F48 a0 w K) : callV Pg r (.func (.func 48) #[] #[]) #[a0] w K :=
  call_of Try.func48 (by kernel_rfl) (by kernel_rfl) (by kernel_rfl) (f48 h)

/-- hourbook/key.Of -/
def F49 (a0 : Value) (w : World) (R : Value → World → Prop) : Prop :=
  newP (zeroT Pg 133) 133 w fun t2 w =>
  newP (zeroT Pg 133) 133 w fun t3 w =>
  callV Pg true (Fv 50) #[a0] w fun t7 w =>
  pureP Pg (Op.unary .not t7) fun t8 =>
  ifV t8 (
    getO (loadW Pg 133 t3 w) fun t9 =>
    getU (storeW Pg 133 t2 t9 w) fun w =>
    readW Pg (Instr.loadAt 133 t2) w fun r0 =>
    R r0 w
    ) (
    pureP Pg (Builtin.len_ #[36] 3 #[a0]) fun t11 =>
    pureP Pg (convert 3 5 t11) fun t12 =>
    pureP Pg (Instr.fieldAt 133 t3 0) fun t13 =>
    getU (storeW Pg 5 t13 t12 w) fun w =>
    callV Pg true (Fv 69) #[a0] w fun t15 w =>
    rangeP Pg 2 t15 w (fun xs w next =>
      pureP Pg (Instr.fieldAt 133 t3 1) fun t20 =>
      pureP Pg (Instr.indexAt 131 t20 (nthV xs 0)) fun t21 =>
      getU (storeW Pg 35 t21 (nthV xs 1) w) fun w =>
      next w
      ) fun w D18 =>
    getO (loadW Pg 133 t3 w) fun t22 =>
    getU (storeW Pg 133 t2 t22 w) fun w =>
    takeD Pg D18 w fun w =>
    readW Pg (Instr.loadAt 133 t2) w fun r0 =>
    R r0 w
    )
theorem f49 {a0 : Value} {w : World} {R : Value → World → Prop} (h : F49 a0 w R) : Calls Pg 49 #[a0] w (retK R) :=
  fn_sound (args := [a0]) Try.func49 (by kernel_rfl) (fun _ => none) (of_eq (by kernel_rfl) (by kernel_rfl) h)
theorem c49 {r : Bool} {a0 : Value} {w : World} {K : Value → World → Prop} (h : F49 a0 w K) : callV Pg r (.func (.func 49) #[] #[]) #[a0] w K :=
  call_of Try.func49 (by kernel_rfl) (by kernel_rfl) (by kernel_rfl) (f49 h)

/-- hourbook/key.May -/
def F50 (a0 : Value) (w : World) (R : Value → World → Prop) : Prop :=
  pureP Pg (Builtin.len_ #[36] 3 #[a0]) fun t4 =>
  pureP Pg (binS .geq 3 t4 (.int .i64 1)) fun t5 =>
  ifV t5 (
    pureP Pg (Builtin.len_ #[36] 3 #[a0]) fun t8 =>
    pureP Pg (binS .leq 3 t8 (.int .i64 64)) fun t9 =>
    R t9 w
    ) (
    R (.bool false) w
    )
theorem f50 {a0 : Value} {w : World} {R : Value → World → Prop} (h : F50 a0 w R) : Calls Pg 50 #[a0] w (retK R) :=
  fn_sound (args := [a0]) Try.func50 (by kernel_rfl) (fun _ => none) (of_eq (by kernel_rfl) (by kernel_rfl) h)
theorem c50 {r : Bool} {a0 : Value} {w : World} {K : Value → World → Prop} (h : F50 a0 w K) : callV Pg r (.func (.func 50) #[] #[]) #[a0] w K :=
  call_of Try.func50 (by kernel_rfl) (by kernel_rfl) (by kernel_rfl) (f50 h)

/-- slices.Clone[[]hourbook/api.Loc,hourbook/api.Loc] -/
def F51 (a0 : Value) (w : World) (R : Value → World → Prop) : Prop :=
  pureP Pg (binS .eql 47 a0 (.slice none 0 0)) fun t4 =>
  ifV t4 (
    R (.slice none 0 0) w
    ) (
    S Pg (Instr.buildSlice 47 0 #[]) w fun t5 w =>
    S Pg (Builtin.append_ #[47, 47] 47 #[t5, a0]) w fun t7 w =>
    R t7 w
    )
theorem f51 {a0 : Value} {w : World} {R : Value → World → Prop} (h : F51 a0 w R) : Calls Pg 51 #[a0] w (retK R) :=
  fn_sound (args := [a0]) Try.func51 (by kernel_rfl) (fun _ => none) (of_eq (by kernel_rfl) (by kernel_rfl) h)
theorem c51 {r : Bool} {a0 : Value} {w : World} {K : Value → World → Prop} (h : F51 a0 w K) : callV Pg r (.func (.func 51) #[] #[]) #[a0] w K :=
  call_of Try.func51 (by kernel_rfl) (by kernel_rfl) (by kernel_rfl) (f51 h)

/-- hourbook/hourbooklaw18.at -/
def F52 (a0 : Value) (w : World) (R : Value → World → Prop) : Prop :=
  newP (zeroT Pg 34) 34 w fun t2 w =>
  pureP Pg (Instr.build 34 #[(0, (.int .u32 1)), (1, a0)]) fun t4 =>
  getU (storeW Pg 34 t2 t4 w) fun w =>
  readW Pg (Instr.loadAt 34 t2) w fun r0 =>
  R r0 w
theorem f52 {a0 : Value} {w : World} {R : Value → World → Prop} (h : F52 a0 w R) : Calls Pg 52 #[a0] w (retK R) :=
  fn_sound (args := [a0]) Try.func52 (by kernel_rfl) (fun _ => none) (of_eq (by kernel_rfl) (by kernel_rfl) h)
theorem c52 {r : Bool} {a0 : Value} {w : World} {K : Value → World → Prop} (h : F52 a0 w K) : callV Pg r (.func (.func 52) #[] #[]) #[a0] w K :=
  call_of Try.func52 (by kernel_rfl) (by kernel_rfl) (by kernel_rfl) (f52 h)

/-- hourbook/seen.May -/
def F53 (a0 : Value) (w : World) (R : Value → World → Prop) : Prop :=
  pureP Pg (Builtin.len_ #[53] 3 #[a0]) fun t7 =>
  loopP [(.int .u64 0), (.int .i64 0)] w fun s8 w next8 => -- t3 t8
  pureP Pg (binS .lss 3 (nthV s8 1) t7) fun t9 =>
  ifV t9 (
    pureP Pg (Instr.indexAt 53 a0 (nthV s8 1)) fun t10 =>
    getO (loadW Pg 55 t10 w) fun t11 =>
    newP (zeroT Pg 55) 55 w fun t5 w =>
    getU (storeW Pg 55 t5 t11 w) fun w =>
    pureP Pg (Instr.fieldAt 55 t5 0) fun t12 =>
    getO (loadW Pg 35 t12 w) fun t13 =>
    pureP Pg (binS .leq 35 t13 (nthV s8 0)) fun t15 =>
    ifV t15 (
      R (.bool false) w
      ) (
      pureP Pg (Instr.fieldAt 55 t5 0) fun t17 =>
      getO (loadW Pg 35 t17 w) fun t18 =>
      pureP Pg (binS .gtr 35 t18 (.int .u64 1099511627776)) fun t19 =>
      ifV t19 (
        R (.bool false) w
        ) (
        pureP Pg (Instr.fieldAt 55 t5 1) fun t22 =>
        getO (loadW Pg 3 t22 w) fun t23 =>
        pureP Pg (binS .neq 3 t23 (.int .i64 1)) fun t24 =>
        ifV t24 (
          pureP Pg (Instr.fieldAt 55 t5 1) fun t26 =>
          getO (loadW Pg 3 t26 w) fun t27 =>
          pureP Pg (binS .neq 3 t27 (.int .i64 2)) fun t28 =>
          ifV t28 (
            R (.bool false) w
            ) (
            pureP Pg (Instr.fieldAt 55 t5 0) fun t31 =>
            getO (loadW Pg 35 t31 w) fun t32 =>
            pureP Pg (binS .add 3 (nthV s8 1) (.int .i64 1)) fun t33 =>
            next8 [t32, t33] w
            )
          ) (
          pureP Pg (Instr.fieldAt 55 t5 0) fun t31_1 =>
          getO (loadW Pg 35 t31_1 w) fun t32_1 =>
          pureP Pg (binS .add 3 (nthV s8 1) (.int .i64 1)) fun t33_1 =>
          next8 [t32_1, t33_1] w
          )
        )
      )
    ) (
    R (.bool true) w
    )
theorem f53 {a0 : Value} {w : World} {R : Value → World → Prop} (h : F53 a0 w R) : Calls Pg 53 #[a0] w (retK R) :=
  fn_sound (args := [a0]) Try.func53 (by kernel_rfl) (annOf [(8, [3,8])]) (of_eq (by kernel_rfl) (by kernel_rfl) h)
theorem c53 {r : Bool} {a0 : Value} {w : World} {K : Value → World → Prop} (h : F53 a0 w K) : callV Pg r (.func (.func 53) #[] #[]) #[a0] w K :=
  call_of Try.func53 (by kernel_rfl) (by kernel_rfl) (by kernel_rfl) (f53 h)

/-- hourbook/seen.behind -/
def F54 (a0 a1 : Value) (w : World) (R : Value → World → Prop) : Prop :=
  newP (some a0) 53 w fun t2 w =>
  newP (some a1) 35 w fun t3 w =>
  getO (loadW Pg 53 t2 w) fun t5 =>
  pureP Pg (Builtin.len_ #[53] 3 #[t5]) fun t6 =>
  pureP Pg (Instr.makeFunc (.func 76) #[] #[t2, t3]) fun t7 =>
  callV Pg true (Fv 75) #[t6, t7] w fun t8 w =>
  R t8 w
theorem f54 {a0 a1 : Value} {w : World} {R : Value → World → Prop} (h : F54 a0 a1 w R) : Calls Pg 54 #[a0, a1] w (retK R) :=
  fn_sound (args := [a0, a1]) Try.func54 (by kernel_rfl) (fun _ => none) (of_eq (by kernel_rfl) (by kernel_rfl) h)
theorem c54 {r : Bool} {a0 a1 : Value} {w : World} {K : Value → World → Prop} (h : F54 a0 a1 w K) : callV Pg r (.func (.func 54) #[] #[]) #[a0, a1] w K :=
  call_of Try.func54 (by kernel_rfl) (by kernel_rfl) (by kernel_rfl) (f54 h)

/-- hourbook/hourbooklaw20.are -/
def F55 (a0 a1 : Value) (w : World) (R : Value → World → Prop) : Prop :=
  callV Pg true (Fv 77) #[a0] w fun t8 w =>
  pureP Pg (Builtin.len_ #[73] 3 #[t8]) fun t10 =>
  pureP Pg (Builtin.len_ #[73] 3 #[a1]) fun t12 =>
  pureP Pg (binS .neq 3 t10 t12) fun t13 =>
  ifV t13 (
    R (.bool false) w
    ) (
    loopP [(.int .i64 0)] w fun s16 w next16 => -- t6
    pureP Pg (Builtin.len_ #[73] 3 #[t8]) fun t16 =>
    pureP Pg (binS .lss 3 (nthV s16 0) t16) fun t17 =>
    ifV t17 (
      ∃ St : World → Prop, St w.drew ∧ drewP w fun w =>
      pureP Pg (Instr.indexAt 73 t8 (nthV s16 0)) fun t22 =>
      readP St (loadW Pg 3 t22) fun t23 =>
      pureP Pg (Instr.indexAt 73 a1 (nthV s16 0)) fun t26 =>
      readP St (loadW Pg 3 t26) fun t27 =>
      pureP Pg (binS .neq 3 t23 t27) fun t28 =>
      ifV t28 (
        R (.bool false) w
        ) (
        pureP Pg (binS .add 3 (nthV s16 0) (.int .i64 1)) fun t19 =>
        next16 [t19] w
        )
      ) (
      R (.bool true) w
      )
    )
theorem f55 {a0 a1 : Value} {w : World} {R : Value → World → Prop} (h : F55 a0 a1 w R) : Calls Pg 55 #[a0, a1] w (retK R) :=
  fn_sound (args := [a0, a1]) Try.func55 (by kernel_rfl) (annOf [(16, [6])]) (of_eq (by kernel_rfl) (by kernel_rfl) h)
theorem c55 {r : Bool} {a0 a1 : Value} {w : World} {K : Value → World → Prop} (h : F55 a0 a1 w K) : callV Pg r (.func (.func 55) #[] #[]) #[a0, a1] w K :=
  call_of Try.func55 (by kernel_rfl) (by kernel_rfl) (by kernel_rfl) (f55 h)

/-- hourbook/seen.Kept -/
def F56 (a0 a1 : Value) (w : World) (R : Value → World → Prop) : Prop :=
  callV Pg true (Fv 78) #[a0, a1] w fun t11 w =>
  newP (zeroT Pg 4) 4 w fun t6 w =>
  getU (storeW Pg 4 t6 (.bool false) w) fun w =>
  pureP Pg (Instr.makeFunc (.func 79) #[] #[t6]) fun t12 =>
  pureP Pg (Builtin.len_ #[142] 3 #[t11]) fun t14 =>
  loopP [(.int .i64 0)] w fun s12 w next12 => -- t15
  pureP Pg (binS .lss 3 (nthV s12 0) t14) fun t16 =>
  ifV t16 (
    ∃ St : World → Prop, St w.drew ∧ drewP w fun w =>
    pureP Pg (Instr.indexAt 53 a0 (nthV s12 0)) fun t23 =>
    readP St (loadW Pg 55 t23) fun t24 =>
    pureP Pg (Instr.indexAt 142 t11 (nthV s12 0)) fun t27 =>
    readP St (loadW Pg 4 t27) fun t28 =>
    callV Pg false t12 #[t24, t28] w fun t29 w =>
    pureP Pg (Instr.indexAt 142 t11 (nthV s12 0)) fun t30 =>
    getU (storeW Pg 4 t30 t29 w) fun w =>
    pureP Pg (binS .add 3 (nthV s12 0) (.int .i64 1)) fun t31 =>
    next12 [t31] w
    ) (
    R t11 w
    )
theorem f56 {a0 a1 : Value} {w : World} {R : Value → World → Prop} (h : F56 a0 a1 w R) : Calls Pg 56 #[a0, a1] w (retK R) :=
  fn_sound (args := [a0, a1]) Try.func56 (by kernel_rfl) (annOf [(12, [15])]) (of_eq (by kernel_rfl) (by kernel_rfl) h)
theorem c56 {r : Bool} {a0 a1 : Value} {w : World} {K : Value → World → Prop} (h : F56 a0 a1 w K) : callV Pg r (.func (.func 56) #[] #[]) #[a0, a1] w K :=
  call_of Try.func56 (by kernel_rfl) (by kernel_rfl) (by kernel_rfl) (f56 h)

/-- hourbook/seen.There -/
def F57 (a0 a1 : Value) (w : World) (R : Value → World → Prop) : Prop :=
  callV Pg true (Fv 18) #[a0, a1] w fun t10 w =>
  pureP Pg (Instr.extract t10 0) fun t11 =>
  pureP Pg (Instr.extract t10 1) fun t12 =>
  ifV t12 (
    pureP Pg (Instr.indexAt 53 a0 t11) fun t17 =>
    pureP Pg (Instr.fieldAt 55 t17 1) fun t18 =>
    getO (loadW Pg 3 t18 w) fun t19 =>
    pureP Pg (binS .eql 3 t19 (.int .i64 1)) fun t20 =>
    R t20 w
    ) (
    R (.bool false) w
    )
theorem f57 {a0 a1 : Value} {w : World} {R : Value → World → Prop} (h : F57 a0 a1 w R) : Calls Pg 57 #[a0, a1] w (retK R) :=
  fn_sound (args := [a0, a1]) Try.func57 (by kernel_rfl) (fun _ => none) (of_eq (by kernel_rfl) (by kernel_rfl) h)
theorem c57 {r : Bool} {a0 a1 : Value} {w : World} {K : Value → World → Prop} (h : F57 a0 a1 w K) : callV Pg r (.func (.func 57) #[] #[]) #[a0, a1] w K :=
  call_of Try.func57 (by kernel_rfl) (by kernel_rfl) (by kernel_rfl) (f57 h)

/-- hourbook/plan.Of$1 -/
def F58 (a0 a1 a2 a3 a4 a5 : Value) (w : World) (R : Value → World → Prop) : Prop :=
  getO (loadW Pg 63 a1 w) fun t12 =>
  pureP Pg (Instr.indexAt 63 t12 a0) fun t14 =>
  getO (loadW Pg 79 t14 w) fun t15 =>
  newP (zeroT Pg 79) 79 w fun t7 w =>
  getU (storeW Pg 79 t7 t15 w) fun w =>
  pureP Pg (Instr.fieldAt 70 a2 1) fun t16 =>
  getO (loadW Pg 68 t16 w) fun t17 =>
  pureP Pg (Builtin.len_ #[68] 3 #[t17]) fun t18 =>
  joinP (fun J4 =>
    joinP (fun J5 =>
      ∃ St : World → Prop, St w.drew ∧ drewP w fun w =>
      pureP Pg (binS .eql 3 t18 (.int .i64 0)) fun t20 =>
      ifV t20 (
        J5 [(.bool true)] w
        ) (
        pureP Pg (Instr.fieldAt 70 a2 1) fun t22 =>
        readP St (loadW Pg 68 t22) fun t23 =>
        pureP Pg (binS .sub 3 t18 (.int .i64 1)) fun t25 =>
        pureP Pg (Instr.indexAt 68 t23 t25) fun t26 =>
        pureP Pg (Instr.fieldAt 116 t26 1) fun t27 =>
        readP St (loadW Pg 32 t27) fun t28 =>
        pureP Pg (convert 32 3 t28) fun t29 =>
        pureP Pg (Instr.fieldAt 79 t7 3) fun t30 =>
        readP St (loadW Pg 3 t30) fun t31 =>
        pureP Pg (binS .add 3 t29 t31) fun t32 =>
        readP St (loadW Pg 3 a3) fun t33 =>
        pureP Pg (binS .gtr 3 t32 t33) fun t34 =>
        J5 [t34] w
        )
      ) fun s5 w =>
    ifV (nthV s5 0) (
      pureP Pg (Instr.fieldAt 70 a2 1) fun t36 =>
      getO (loadW Pg 68 t36 w) fun t37 =>
      getO (loadW Pg 32 a4 w) fun t38 =>
      pureP Pg (convert 3 32 t18) fun t40 =>
      pureP Pg (binS .add 32 t38 t40) fun t41 =>
      pureP Pg (Instr.fieldAt 79 t7 1) fun t42 =>
      getO (loadW Pg 35 t42 w) fun t43 =>
      pureP Pg (Instr.build 116 #[(0, t41), (1, (.int .u32 16)), (3, t43)]) fun t44 =>
      S Pg (Instr.buildSlice 68 1 #[(0, t44)]) w fun t45 w =>
      S Pg (Builtin.append_ #[68, 68] 68 #[t37, t45]) w fun t46 w =>
      pureP Pg (Instr.fieldAt 70 a2 1) fun t47 =>
      getU (storeW Pg 68 t47 t46 w) fun w =>
      pureP Pg (binS .add 3 t18 (.int .i64 1)) fun t49 =>
      J4 [t49] w
      ) (
      J4 [t18] w
      )
    ) fun s4 w =>
  pureP Pg (Instr.fieldAt 70 a2 1) fun t50 =>
  getO (loadW Pg 68 t50 w) fun t51 =>
  pureP Pg (binS .sub 3 (nthV s4 0) (.int .i64 1)) fun t53 =>
  pureP Pg (Instr.indexAt 68 t51 t53) fun t54 =>
  joinP (fun J14 =>
    ∃ St : World → Prop, St w.drew ∧ drewP w fun w =>
    pureP Pg (nilS t54) fun t56 =>
    pureP Pg (Instr.fieldAt 116 t56 0) fun t57 =>
    readP St (loadW Pg 32 t57) fun t58 =>
    pureP Pg (nilS t54) fun t60 =>
    pureP Pg (Instr.fieldAt 116 t60 1) fun t61 =>
    readP St (loadW Pg 32 t61) fun t62 =>
    pureP Pg (Instr.build 34 #[(0, t58), (1, t62)]) fun t63 =>
    pureP Pg (Instr.fieldAt 79 t7 0) fun t64 =>
    readP St (loadW Pg 36 t64) fun t65 =>
    (
      callV Pg false (Fv 49) #[t65] w fun t66 w =>
      St w ∧ (
        (
          newP (zeroT Pg 34) 34 w fun t10 w =>
          St w ∧ (
            newP (zeroT Pg 133) 133 w fun t11 w =>
            St w ∧ (
              getU (storeW Pg 34 t10 t63 w) fun w =>
              St w ∧ (
                getU (storeW Pg 133 t11 t66 w) fun w =>
                J14 [t10, t11] w
              )
            )
          )
        ) ∧
        (
          newP (zeroT Pg 133) 133 w fun t11_1 w =>
          St w ∧ (
            newP (zeroT Pg 34) 34 w fun t10_1 w =>
            St w ∧ (
              getU (storeW Pg 34 t10_1 t63 w) fun w =>
              St w ∧ (
                getU (storeW Pg 133 t11_1 t66 w) fun w =>
                J14 [t10_1, t11_1] w
              )
            )
          )
        )
      )
    ) ∧
    (
      newP (zeroT Pg 34) 34 w fun t10_2 w =>
      St w ∧ (
        (
          callV Pg false (Fv 49) #[t65] w fun t66_1 w =>
          St w ∧ (
            newP (zeroT Pg 133) 133 w fun t11_2 w =>
            St w ∧ (
              getU (storeW Pg 34 t10_2 t63 w) fun w =>
              St w ∧ (
                getU (storeW Pg 133 t11_2 t66_1 w) fun w =>
                J14 [t10_2, t11_2] w
              )
            )
          )
        ) ∧
        (
          newP (zeroT Pg 133) 133 w fun t11_3 w =>
          St w ∧ (
            callV Pg false (Fv 49) #[t65] w fun t66_2 w =>
            St w ∧ (
              getU (storeW Pg 34 t10_2 t63 w) fun w =>
              St w ∧ (
                getU (storeW Pg 133 t11_3 t66_2 w) fun w =>
                J14 [t10_2, t11_3] w
              )
            )
          )
        )
      )
    ) ∧
    (
      newP (zeroT Pg 133) 133 w fun t11_4 w =>
      St w ∧ (
        (
          callV Pg false (Fv 49) #[t65] w fun t66_3 w =>
          St w ∧ (
            newP (zeroT Pg 34) 34 w fun t10_3 w =>
            St w ∧ (
              getU (storeW Pg 34 t10_3 t63 w) fun w =>
              St w ∧ (
                getU (storeW Pg 133 t11_4 t66_3 w) fun w =>
                J14 [t10_3, t11_4] w
              )
            )
          )
        ) ∧
        (
          newP (zeroT Pg 34) 34 w fun t10_4 w =>
          St w ∧ (
            callV Pg false (Fv 49) #[t65] w fun t66_4 w =>
            St w ∧ (
              getU (storeW Pg 34 t10_4 t63 w) fun w =>
              St w ∧ (
                getU (storeW Pg 133 t11_4 t66_4 w) fun w =>
                J14 [t10_4, t11_4] w
              )
            )
          )
        )
      )
    )
    ) fun s14 w =>
  ∃ St : World → Prop, St w.drew ∧ drewP w fun w =>
  pureP Pg (Instr.fieldAt 70 a2 0) fun t67 =>
  readP St (loadW Pg 67 t67) fun t68 =>
  readP St (loadW Pg 34 (nthV s14 0)) fun t70 =>
  readP St (loadW Pg 147 a5) fun t71 =>
  readP St (loadW Pg 133 (nthV s14 1)) fun t72 =>
  readP St (runR Pg (Instr.lookup 147 t71 t72 false)) fun t73 =>
  pureP Pg (Instr.build 75 #[(0, a0), (1, t70), (2, t73)]) fun t74 =>
  S Pg (Instr.buildSlice 67 1 #[(0, t74)]) w fun t75 w =>
  St w ∧ (
    S Pg (Builtin.append_ #[67, 67] 67 #[t68, t75]) w fun t76 w =>
    St w ∧ (
      pureP Pg (Instr.fieldAt 70 a2 0) fun t77 =>
      getU (storeW Pg 67 t77 t76 w) fun w =>
      getO (loadW Pg 147 a5 w) fun t78 =>
      getO (loadW Pg 133 (nthV s14 1) w) fun t79 =>
      getO (loadW Pg 34 (nthV s14 0) w) fun t80 =>
      U Pg (Instr.mapUpdate 147 t78 t79 t80) w fun w =>
      ∃ St : World → Prop, St w.drew ∧ drewP w fun w =>
      pureP Pg (nilS t54) fun t82 =>
      pureP Pg (Instr.fieldAt 116 t82 1) fun t83 =>
      readP St (loadW Pg 32 t83) fun t84 =>
      pureP Pg (Instr.fieldAt 79 t7 3) fun t85 =>
      readP St (loadW Pg 3 t85) fun t86 =>
      pureP Pg (convert 3 32 t86) fun t87 =>
      pureP Pg (binS .add 32 t84 t87) fun t88 =>
      pureP Pg (nilS t54) fun t89 =>
      pureP Pg (Instr.fieldAt 116 t89 1) fun t90 =>
      getU (storeW Pg 32 t90 t88 w) fun w =>
      pureP Pg (nilS t54) fun t92 =>
      pureP Pg (Instr.fieldAt 116 t92 2) fun t93 =>
      getO (loadW Pg 32 t93 w) fun t94 =>
      pureP Pg (binS .add 32 t94 (.int .u32 1)) fun t95 =>
      pureP Pg (nilS t54) fun t96 =>
      pureP Pg (Instr.fieldAt 116 t96 2) fun t97 =>
      getU (storeW Pg 32 t97 t95 w) fun w =>
      pureP Pg (Instr.fieldAt 79 t7 1) fun t99 =>
      getO (loadW Pg 35 t99 w) fun t100 =>
      pureP Pg (nilS t54) fun t101 =>
      pureP Pg (Instr.fieldAt 116 t101 4) fun t102 =>
      getU (storeW Pg 35 t102 t100 w) fun w =>
      R (.tuple #[]) w
    )
  )
theorem f58 {a0 a1 a2 a3 a4 a5 : Value} {w : World} {R : Value → World → Prop} (h : F58 a0 a1 a2 a3 a4 a5 w R) : Calls Pg 58 #[a0, a1, a2, a3, a4, a5] w (retK R) :=
  fn_sound (args := [a0, a1, a2, a3, a4, a5]) Try.func58 (by kernel_rfl) (annOf [(4, [8]), (5, [35]), (14, [10,11])]) (of_eq (by kernel_rfl) (by kernel_rfl) h)
theorem c58 {r : Bool} {a0 a1 a2 a3 a4 a5 : Value} {w : World} {K : Value → World → Prop} (h : F58 a0 a1 a2 a3 a4 a5 w K) : callV Pg r (.func (.func 58) #[] #[a1, a2, a3, a4, a5]) #[a0] w K :=
  call_of Try.func58 (by kernel_rfl) (by kernel_rfl) (by kernel_rfl) (f58 h)

/-- hourbook/plan.kept -/
def F59 (a0 a1 : Value) (w : World) (R : Value → World → Prop) : Prop :=
  S Pg (Instr.makeMap 168 none) w fun t17 w =>
  pureP Pg (Builtin.len_ #[63] 3 #[a0]) fun t19 =>
  loopP [(.int .i64 0)] w fun s8 w next8 => -- t20
  pureP Pg (binS .lss 3 (nthV s8 0) t19) fun t21 =>
  ifV t21 (
    pureP Pg (Instr.indexAt 63 a0 (nthV s8 0)) fun t23 =>
    getO (loadW Pg 79 t23 w) fun t24 =>
    newP (zeroT Pg 79) 79 w fun t7 w =>
    getU (storeW Pg 79 t7 t24 w) fun w =>
    pureP Pg (Instr.fieldAt 79 t7 0) fun t25 =>
    getO (loadW Pg 36 t25 w) fun t26 =>
    callV Pg true (Fv 49) #[t26] w fun t27 w =>
    newP (zeroT Pg 133) 133 w fun t8 w =>
    getU (storeW Pg 133 t8 t27 w) fun w =>
    getO (loadW Pg 133 t8 w) fun t29 =>
    S Pg (Instr.buildSlice 73 1 #[(0, (nthV s8 0))]) w fun t32 w =>
    S Pg (Instr.mapEntry 168 t17 t29) w fun t33 w =>
    pureP Pg (Instr.extract t33 0) fun t30 =>
    S Pg (Builtin.append_ #[73, 73] 73 #[t30, t32]) w fun t34 w =>
    pureP Pg (Instr.extract t33 1) fun t35 =>
    U Pg (Instr.entryStore 168 t17 t35 t34) w fun w =>
    pureP Pg (binS .add 3 (nthV s8 0) (.int .i64 1)) fun t36 =>
    next8 [t36] w
    ) (
    pureP Pg (Builtin.len_ #[63] 3 #[a0]) fun t38 =>
    S Pg (Instr.makeSlice 142 t38 t38) w fun t39 w =>
    S Pg (Instr.range 168 t17) w fun t41 w =>
    loopP [] w fun _ w next29 => -- 
    S Pg (Instr.next t41 false 0) w fun t42 w =>
    pureP Pg (Instr.extract t42 0) fun t43 =>
    ifV t43 (
      getO (runR Pg (Instr.entry t41) w) fun t44 =>
      pureP Pg (Instr.extract t44 1) fun t45 =>
      pureP Pg (Builtin.len_ #[73] 3 #[t45]) fun t47 =>
      loopP [(.slice none 0 0), (.int .i64 0)] w fun s45 w next45 => -- t12 t48
      pureP Pg (binS .lss 3 (nthV s45 1) t47) fun t49 =>
      ifV t49 (
        pureP Pg (Instr.indexAt 73 t45 (nthV s45 1)) fun t50 =>
        getO (loadW Pg 3 t50 w) fun t51 =>
        ∃ St : World → Prop, St w.drew ∧ drewP w fun w =>
        pureP Pg (Instr.indexAt 63 a0 t51) fun t55 =>
        pureP Pg (Instr.fieldAt 79 t55 1) fun t56 =>
        readP St (loadW Pg 35 t56) fun t57 =>
        pureP Pg (Instr.indexAt 63 a0 t51) fun t60 =>
        pureP Pg (Instr.fieldAt 79 t60 2) fun t61 =>
        readP St (loadW Pg 3 t61) fun t62 =>
        pureP Pg (Instr.build 55 #[(0, t57), (1, t62)]) fun t63 =>
        S Pg (Instr.buildSlice 53 1 #[(0, t63)]) w fun t64 w =>
        St w ∧ (
          S Pg (Builtin.append_ #[53, 53] 53 #[(nthV s45 0), t64]) w fun t65 w =>
          St w ∧ (
            pureP Pg (binS .add 3 (nthV s45 1) (.int .i64 1)) fun t66 =>
            next45 [t65, t66] w
          )
        )
        ) (
        callV Pg true (Fv 56) #[(nthV s45 0), a1] w fun t69 w =>
        pureP Pg (Builtin.len_ #[142] 3 #[t69]) fun t70 =>
        loopP [(.int .i64 0)] w fun s61 w next61 => -- t71
        pureP Pg (binS .lss 3 (nthV s61 0) t70) fun t72 =>
        ifV t72 (
          pureP Pg (Instr.indexAt 142 t69 (nthV s61 0)) fun t74 =>
          getO (loadW Pg 4 t74 w) fun t75 =>
          pureP Pg (Instr.indexAt 73 t45 (nthV s61 0)) fun t79 =>
          getO (loadW Pg 3 t79 w) fun t80 =>
          pureP Pg (Instr.indexAt 142 t39 t80) fun t82 =>
          getU (storeW Pg 4 t82 t75 w) fun w =>
          pureP Pg (binS .add 3 (nthV s61 0) (.int .i64 1)) fun t83 =>
          next61 [t83] w
          ) (
          next29 [] w
          )
        )
      ) (
      R t39 w
      )
    )
theorem f59 {a0 a1 : Value} {w : World} {R : Value → World → Prop} (h : F59 a0 a1 w R) : Calls Pg 59 #[a0, a1] w (retK R) :=
  fn_sound (args := [a0, a1]) Try.func59 (by kernel_rfl) (annOf [(8, [20]), (29, []), (45, [12,48]), (61, [71])]) (of_eq (by kernel_rfl) (by kernel_rfl) h)
theorem c59 {r : Bool} {a0 a1 : Value} {w : World} {K : Value → World → Prop} (h : F59 a0 a1 w K) : callV Pg r (.func (.func 59) #[] #[]) #[a0, a1] w K :=
  call_of Try.func59 (by kernel_rfl) (by kernel_rfl) (by kernel_rfl) (f59 h)

/-- hourbook/hourbooklaw25.wakes$1 -/
def F60 (a0 : Value) (w : World) (R : Value → World → Prop) : Prop :=
  newP (zeroT Pg 34) 34 w fun t2 w =>
  pureP Pg (Instr.build 34 #[(0, (.int .u32 9)), (1, a0)]) fun t4 =>
  getU (storeW Pg 34 t2 t4 w) fun w =>
  readW Pg (Instr.loadAt 34 t2) w fun r0 =>
  R r0 w
theorem f60 {a0 : Value} {w : World} {R : Value → World → Prop} (h : F60 a0 w R) : Calls Pg 60 #[a0] w (retK R) :=
  fn_sound (args := [a0]) Try.func60 (by kernel_rfl) (fun _ => none) (of_eq (by kernel_rfl) (by kernel_rfl) h)
theorem c60 {r : Bool} {a0 : Value} {w : World} {K : Value → World → Prop} (h : F60 a0 w K) : callV Pg r (.func (.func 60) #[] #[]) #[a0] w K :=
  call_of Try.func60 (by kernel_rfl) (by kernel_rfl) (by kernel_rfl) (f60 h)

/-- slices.Equal[[]hourbook/plan.Step,hourbook/plan.Step] -/
def F61 (a0 a1 : Value) (w : World) (R : Value → World → Prop) : Prop :=
  pureP Pg (Builtin.len_ #[67] 3 #[a0]) fun t7 =>
  pureP Pg (Builtin.len_ #[67] 3 #[a1]) fun t9 =>
  pureP Pg (binS .neq 3 t7 t9) fun t10 =>
  ifV t10 (
    R (.bool false) w
    ) (
    pureP Pg (Builtin.len_ #[67] 3 #[a0]) fun t12 =>
    loopP [(.int .i64 0)] w fun s14 w next14 => -- t13
    pureP Pg (binS .lss 3 (nthV s14 0) t12) fun t14 =>
    ifV t14 (
      ∃ St : World → Prop, St w.drew ∧ drewP w fun w =>
      pureP Pg (Instr.indexAt 67 a0 (nthV s14 0)) fun t18 =>
      readP St (loadW Pg 75 t18) fun t19 =>
      pureP Pg (Instr.indexAt 67 a1 (nthV s14 0)) fun t22 =>
      readP St (loadW Pg 75 t22) fun t23 =>
      pureP Pg (binS .neq 75 t19 t23) fun t24 =>
      ifV t24 (
        R (.bool false) w
        ) (
        pureP Pg (binS .add 3 (nthV s14 0) (.int .i64 1)) fun t25 =>
        next14 [t25] w
        )
      ) (
      R (.bool true) w
      )
    )
theorem f61 {a0 a1 : Value} {w : World} {R : Value → World → Prop} (h : F61 a0 a1 w R) : Calls Pg 61 #[a0, a1] w (retK R) :=
  fn_sound (args := [a0, a1]) Try.func61 (by kernel_rfl) (annOf [(14, [13])]) (of_eq (by kernel_rfl) (by kernel_rfl) h)
theorem c61 {r : Bool} {a0 a1 : Value} {w : World} {K : Value → World → Prop} (h : F61 a0 a1 w K) : callV Pg r (.func (.func 61) #[] #[]) #[a0, a1] w K :=
  call_of Try.func61 (by kernel_rfl) (by kernel_rfl) (by kernel_rfl) (f61 h)

/-- (*hourbook/probe.Table).none -/
def F62 (a0 : Value) (w : World) (R : Value → World → Prop) : Prop :=
  pureP Pg (binS .eql 89 a0 (.pointer none)) fun t4 =>
  ifV t4 (
    R (.bool true) w
    ) (
    pureP Pg (nilS a0) fun t7 =>
    pureP Pg (Instr.fieldAt 153 t7 1) fun t8 =>
    getO (loadW Pg 93 t8 w) fun t9 =>
    pureP Pg (binS .eql 93 t9 (.slice none 0 0)) fun t10 =>
    R t10 w
    )
theorem f62 {a0 : Value} {w : World} {R : Value → World → Prop} (h : F62 a0 w R) : Calls Pg 62 #[a0] w (retK R) :=
  fn_sound (args := [a0]) Try.func62 (by kernel_rfl) (fun _ => none) (of_eq (by kernel_rfl) (by kernel_rfl) h)
theorem c62 {r : Bool} {a0 : Value} {w : World} {K : Value → World → Prop} (h : F62 a0 w K) : callV Pg r (.func (.func 62) #[] #[]) #[a0] w K :=
  call_of Try.func62 (by kernel_rfl) (by kernel_rfl) (by kernel_rfl) (f62 h)

/-- (*hourbook/probe.Table).find -/
def F63 (a0 a1 : Value) (w : World) (R : Value → World → Prop) : Prop :=
  callV Pg true (Fv 80) #[a0, a1] w fun t9 w =>
  pureP Pg (nilS a0) fun t11 =>
  pureP Pg (Instr.fieldAt 153 t11 1) fun t12 =>
  getO (loadW Pg 93 t12 w) fun t13 =>
  pureP Pg (Instr.indexAt 93 t13 t9) fun t15 =>
  getO (loadW Pg 96 t15 w) fun t16 =>
  newP (zeroT Pg 96) 96 w fun t6 w =>
  getU (storeW Pg 96 t6 t16 w) fun w =>
  loopP [t9, (.int .i64 0), t6] w fun s8 w next8 => -- t4 t5 t6
  getO (loadW Pg 96 (nthV s8 2) w) fun t19 =>
  callV Pg true (Fv 81) #[a1, (nthV s8 1), t19] w fun t20 w =>
  pureP Pg (Op.unary .not t20) fun t21 =>
  ifV t21 (
    pureP Pg (Instr.fieldAt 96 (nthV s8 2) 1) fun t24 =>
    getO (loadW Pg 36 t24 w) fun t25 =>
    callV Pg true (Fv 43) #[a1, t25] w fun t26 w =>
    pureP Pg (Op.unary .not t26) fun t27 =>
    ifV t27 (
      callV Pg true (Fv 67) #[a0, (nthV s8 0)] w fun t38 w =>
      pureP Pg (binS .add 3 (nthV s8 1) (.int .i64 1)) fun t40 =>
      getO (loadW Pg 96 (nthV s8 2) w) fun t41 =>
      newP (zeroT Pg 96) 96 w fun t6_1 w =>
      getU (storeW Pg 96 t6_1 t41 w) fun w =>
      pureP Pg (nilS a0) fun t30 =>
      pureP Pg (Instr.fieldAt 153 t30 1) fun t31 =>
      getO (loadW Pg 93 t31 w) fun t32 =>
      pureP Pg (Instr.indexAt 93 t32 t38) fun t34 =>
      getO (loadW Pg 96 t34 w) fun t35 =>
      getU (storeW Pg 96 t6_1 t35 w) fun w =>
      next8 [t38, t40, t6_1] w
      ) (
      R (.tuple #[(nthV s8 0), (nthV s8 1)]) w
      )
    ) (
    R (.tuple #[(nthV s8 0), (nthV s8 1)]) w
    )
theorem f63 {a0 a1 : Value} {w : World} {R : Value → World → Prop} (h : F63 a0 a1 w R) : Calls Pg 63 #[a0, a1] w (retK R) :=
  fn_sound (args := [a0, a1]) Try.func63 (by kernel_rfl) (annOf [(8, [4,5,6])]) (of_eq (by kernel_rfl) (by kernel_rfl) h)
theorem c63 {r : Bool} {a0 a1 : Value} {w : World} {K : Value → World → Prop} (h : F63 a0 a1 w K) : callV Pg r (.func (.func 63) #[] #[]) #[a0, a1] w K :=
  call_of Try.func63 (by kernel_rfl) (by kernel_rfl) (by kernel_rfl) (f63 h)

/-- (*hourbook/probe.Table).fit -/
def F64 (a0 a1 : Value) (w : World) (R : Value → World → Prop) : Prop :=
  newP (some a0) 89 w fun t2 w =>
  loopP [(.int .i64 8)] w fun s6 w next6 => -- t4
  pureP Pg (binS .mul 3 (.int .i64 4) a1) fun t9 =>
  pureP Pg (binS .mul 3 (.int .i64 3) (nthV s6 0)) fun t11 =>
  pureP Pg (binS .gtr 3 t9 t11) fun t12 =>
  ifV t12 (
    pureP Pg (binS .mul 3 (nthV s6 0) (.int .i64 2)) fun t14 =>
    next6 [t14] w
    ) (
    getO (loadW Pg 89 t2 w) fun t16 =>
    pureP Pg (nilS t16) fun t17 =>
    pureP Pg (Instr.fieldAt 153 t17 1) fun t18 =>
    getO (loadW Pg 93 t18 w) fun t19 =>
    pureP Pg (Builtin.len_ #[93] 3 #[t19]) fun t20 =>
    pureP Pg (binS .eql 3 (nthV s6 0) t20) fun t21 =>
    ifV t21 (
      R (.tuple #[]) w
      ) (
      getO (loadW Pg 89 t2 w) fun t22 =>
      callV Pg true (Fv 82) #[t22] w fun t23 w =>
      ∃ St : World → Prop, St w.drew ∧ drewP w fun w =>
      readP St (loadW Pg 89 t2) fun t24 =>
      readP St (loadW Pg 89 t2) fun t25 =>
      S Pg (Instr.makeSlice 93 (nthV s6 0) (nthV s6 0)) w fun t27 w =>
      St w ∧ (
        pureP Pg (nilS t24) fun t28 =>
        pureP Pg (Instr.fieldAt 153 t28 1) fun t29 =>
        getU (storeW Pg 93 t29 t27 w) fun w =>
        St w ∧ (
          pureP Pg (nilS t25) fun t30 =>
          pureP Pg (Instr.fieldAt 153 t30 2) fun t31 =>
          getU (storeW Pg 3 t31 (.int .i64 0) w) fun w =>
          rangeP Pg 2 t23 w (fun xs w next =>
            getO (loadW Pg 89 t2 w) fun t35 =>
            callV Pg true (Fv 65) #[t35, (nthV xs 0), (nthV xs 1)] w fun _ w =>
            next w
            ) fun w D28 =>
          takeD Pg D28 w fun w =>
          R (.tuple #[]) w
        )
      )
      )
    )
theorem f64 {a0 a1 : Value} {w : World} {R : Value → World → Prop} (h : F64 a0 a1 w R) : Calls Pg 64 #[a0, a1] w (retK R) :=
  fn_sound (args := [a0, a1]) Try.func64 (by kernel_rfl) (annOf [(6, [4])]) (of_eq (by kernel_rfl) (by kernel_rfl) h)
theorem c64 {r : Bool} {a0 a1 : Value} {w : World} {K : Value → World → Prop} (h : F64 a0 a1 w K) : callV Pg r (.func (.func 64) #[] #[]) #[a0, a1] w K :=
  call_of Try.func64 (by kernel_rfl) (by kernel_rfl) (by kernel_rfl) (f64 h)

/-- (*hourbook/probe.Table).lay -/
def F65 (a0 a1 a2 : Value) (w : World) (R : Value → World → Prop) : Prop :=
  callV Pg true (Fv 63) #[a0, a1] w fun t12 w =>
  pureP Pg (Instr.extract t12 0) fun t13 =>
  pureP Pg (Instr.extract t12 1) fun t14 =>
  pureP Pg (Instr.build 96 #[(0, (.bool true)), (1, a1), (2, a2), (3, t14)]) fun t18 =>
  newP (zeroT Pg 96) 96 w fun t8 w =>
  getU (storeW Pg 96 t8 t18 w) fun w =>
  loopP [t13] w fun s6 w next6 => -- t6
  pureP Pg (Instr.fieldAt 96 t8 0) fun t19 =>
  getO (loadW Pg 4 t19 w) fun t20 =>
  ifV t20 (
    joinP (fun J14 =>
      ∃ St : World → Prop, St w.drew ∧ drewP w fun w =>
      pureP Pg (Instr.fieldAt 96 t8 1) fun t21 =>
      readP St (loadW Pg 36 t21) fun t22 =>
      pureP Pg (Instr.fieldAt 96 t8 3) fun t23 =>
      readP St (loadW Pg 3 t23) fun t24 =>
      pureP Pg (nilS a0) fun t26 =>
      pureP Pg (Instr.fieldAt 153 t26 1) fun t27 =>
      readP St (loadW Pg 93 t27) fun t28 =>
      pureP Pg (Instr.indexAt 93 t28 (nthV s6 0)) fun t30 =>
      readP St (loadW Pg 96 t30) fun t31 =>
      callV Pg false (Fv 81) #[t22, t24, t31] w fun t32 w =>
      St w ∧ (
        ifV t32 (
          ∃ St : World → Prop, St w.drew ∧ drewP w fun w =>
          pureP Pg (nilS a0) fun t34 =>
          pureP Pg (Instr.fieldAt 153 t34 1) fun t35 =>
          readP St (loadW Pg 93 t35) fun t36 =>
          pureP Pg (nilS a0) fun t39 =>
          pureP Pg (Instr.fieldAt 153 t39 1) fun t40 =>
          readP St (loadW Pg 93 t40) fun t41 =>
          pureP Pg (Instr.indexAt 93 t41 (nthV s6 0)) fun t43 =>
          readP St (loadW Pg 96 t43) fun t44 =>
          readP St (loadW Pg 96 t8) fun t45 =>
          getU (storeW Pg 96 t8 t44 w) fun w =>
          St w ∧ (
            pureP Pg (Instr.indexAt 93 t36 (nthV s6 0)) fun t46 =>
            getU (storeW Pg 96 t46 t45 w) fun w =>
            J14 [] w
          )
          ) (
          J14 [] w
          )
      )
      ) fun _ w =>
    callV Pg true (Fv 67) #[a0, (nthV s6 0)] w fun t49 w =>
    pureP Pg (Instr.fieldAt 96 t8 3) fun t50 =>
    getO (loadW Pg 3 t50 w) fun t51 =>
    pureP Pg (binS .add 3 t51 (.int .i64 1)) fun t52 =>
    pureP Pg (Instr.fieldAt 96 t8 3) fun t53 =>
    getU (storeW Pg 3 t53 t52 w) fun w =>
    next6 [t49] w
    ) (
    pureP Pg (nilS a0) fun t55 =>
    pureP Pg (Instr.fieldAt 153 t55 2) fun t56 =>
    getO (loadW Pg 3 t56 w) fun t57 =>
    pureP Pg (binS .add 3 t57 (.int .i64 1)) fun t58 =>
    pureP Pg (nilS a0) fun t59 =>
    pureP Pg (Instr.fieldAt 153 t59 2) fun t60 =>
    getU (storeW Pg 3 t60 t58 w) fun w =>
    R (.tuple #[]) w
    )
theorem f65 {a0 a1 a2 : Value} {w : World} {R : Value → World → Prop} (h : F65 a0 a1 a2 w R) : Calls Pg 65 #[a0, a1, a2] w (retK R) :=
  fn_sound (args := [a0, a1, a2]) Try.func65 (by kernel_rfl) (annOf [(6, [6]), (14, [])]) (of_eq (by kernel_rfl) (by kernel_rfl) h)
theorem c65 {r : Bool} {a0 a1 a2 : Value} {w : World} {K : Value → World → Prop} (h : F65 a0 a1 a2 w K) : callV Pg r (.func (.func 65) #[] #[]) #[a0, a1, a2] w K :=
  call_of Try.func65 (by kernel_rfl) (by kernel_rfl) (by kernel_rfl) (f65 h)

/-- (*hourbook/probe.Table).Remove$1 -/
def F66 (a0 a1 : Value) (w : World) (R : Value → World → Prop) : Prop :=
  getO (loadW Pg 89 a0 w) fun t5 =>
  getO (loadW Pg 3 a1 w) fun t6 =>
  callV Pg true (Fv 67) #[t5, t6] w fun t7 w =>
  getO (loadW Pg 89 a0 w) fun t8 =>
  pureP Pg (nilS t8) fun t9 =>
  pureP Pg (Instr.fieldAt 153 t9 1) fun t10 =>
  getO (loadW Pg 93 t10 w) fun t11 =>
  pureP Pg (Instr.indexAt 93 t11 t7) fun t13 =>
  getO (loadW Pg 96 t13 w) fun t14 =>
  newP (zeroT Pg 96) 96 w fun t4 w =>
  getU (storeW Pg 96 t4 t14 w) fun w =>
  joinP (fun J7 =>
    pureP Pg (Instr.fieldAt 96 t4 0) fun t15 =>
    getO (loadW Pg 4 t15 w) fun t16 =>
    ifV t16 (
      pureP Pg (Instr.fieldAt 96 t4 3) fun t18 =>
      getO (loadW Pg 3 t18 w) fun t19 =>
      pureP Pg (binS .gtr 3 t19 (.int .i64 0)) fun t20 =>
      J7 [t20] w
      ) (
      J7 [(.bool false)] w
      )
    ) fun s7 w =>
  ifV (nthV s7 0) (
    pureP Pg (Instr.fieldAt 96 t4 3) fun t22 =>
    getO (loadW Pg 3 t22 w) fun t23 =>
    pureP Pg (binS .sub 3 t23 (.int .i64 1)) fun t24 =>
    pureP Pg (Instr.fieldAt 96 t4 3) fun t25 =>
    getU (storeW Pg 3 t25 t24 w) fun w =>
    ∃ St : World → Prop, St w.drew ∧ drewP w fun w =>
    readP St (loadW Pg 89 a0) fun t26 =>
    pureP Pg (nilS t26) fun t27 =>
    pureP Pg (Instr.fieldAt 153 t27 1) fun t28 =>
    readP St (loadW Pg 93 t28) fun t29 =>
    readP St (loadW Pg 3 a1) fun t30 =>
    readP St (loadW Pg 96 t4) fun t31 =>
    pureP Pg (Instr.indexAt 93 t29 t30) fun t33 =>
    getU (storeW Pg 96 t33 t31 w) fun w =>
    getU (storeW Pg 3 a1 t7 w) fun w =>
    R (.bool true) w
    ) (
    ∃ St : World → Prop, St w.drew ∧ drewP w fun w =>
    readP St (loadW Pg 89 a0) fun t34 =>
    pureP Pg (nilS t34) fun t35 =>
    pureP Pg (Instr.fieldAt 153 t35 1) fun t36 =>
    readP St (loadW Pg 93 t36) fun t37 =>
    readP St (loadW Pg 3 a1) fun t38 =>
    pureP Pg (Instr.build 96 #[]) fun t39 =>
    pureP Pg (Instr.indexAt 93 t37 t38) fun t40 =>
    getU (storeW Pg 96 t40 t39 w) fun w =>
    R (.bool false) w
    )
theorem f66 {a0 a1 : Value} {w : World} {R : Value → World → Prop} (h : F66 a0 a1 w R) : Calls Pg 66 #[a0, a1] w (retK R) :=
  fn_sound (args := [a0, a1]) Try.func66 (by kernel_rfl) (annOf [(7, [21])]) (of_eq (by kernel_rfl) (by kernel_rfl) h)
theorem c66 {r : Bool} {a0 a1 : Value} {w : World} {K : Value → World → Prop} (h : F66 a0 a1 w K) : callV Pg r (.func (.func 66) #[] #[a0, a1]) #[] w K :=
  call_of Try.func66 (by kernel_rfl) (by kernel_rfl) (by kernel_rfl) (f66 h)

/-- (*hourbook/probe.Table).next -/
def F67 (a0 a1 : Value) (w : World) (R : Value → World → Prop) : Prop :=
  pureP Pg (binS .add 3 a1 (.int .i64 1)) fun t6 =>
  pureP Pg (nilS a0) fun t8 =>
  pureP Pg (Instr.fieldAt 153 t8 1) fun t9 =>
  getO (loadW Pg 93 t9 w) fun t10 =>
  pureP Pg (Builtin.len_ #[93] 3 #[t10]) fun t11 =>
  pureP Pg (binS .sub 3 t11 (.int .i64 1)) fun t12 =>
  pureP Pg (binS .and 3 t6 t12) fun t13 =>
  R t13 w
theorem f67 {a0 a1 : Value} {w : World} {R : Value → World → Prop} (h : F67 a0 a1 w R) : Calls Pg 67 #[a0, a1] w (retK R) :=
  fn_sound (args := [a0, a1]) Try.func67 (by kernel_rfl) (fun _ => none) (of_eq (by kernel_rfl) (by kernel_rfl) h)
theorem c67 {r : Bool} {a0 a1 : Value} {w : World} {K : Value → World → Prop} (h : F67 a0 a1 w K) : callV Pg r (.func (.func 67) #[] #[]) #[a0, a1] w K :=
  call_of Try.func67 (by kernel_rfl) (by kernel_rfl) (by kernel_rfl) (f67 h)

/-- slices.Clone[[]hourbook/probe.Slot,hourbook/probe.Slot] -/
def F68 (a0 : Value) (w : World) (R : Value → World → Prop) : Prop :=
  pureP Pg (binS .eql 93 a0 (.slice none 0 0)) fun t4 =>
  ifV t4 (
    R (.slice none 0 0) w
    ) (
    S Pg (Instr.buildSlice 93 0 #[]) w fun t5 w =>
    S Pg (Builtin.append_ #[93, 93] 93 #[t5, a0]) w fun t7 w =>
    R t7 w
    )
theorem f68 {a0 : Value} {w : World} {R : Value → World → Prop} (h : F68 a0 w R) : Calls Pg 68 #[a0] w (retK R) :=
  fn_sound (args := [a0]) Try.func68 (by kernel_rfl) (fun _ => none) (of_eq (by kernel_rfl) (by kernel_rfl) h)
theorem c68 {r : Bool} {a0 : Value} {w : World} {K : Value → World → Prop} (h : F68 a0 w K) : callV Pg r (.func (.func 68) #[] #[]) #[a0] w K :=
  call_of Try.func68 (by kernel_rfl) (by kernel_rfl) (by kernel_rfl) (f68 h)

/-- hourbook/key.words -/
def F69 (a0 : Value) (w : World) (R : Value → World → Prop) : Prop :=
  newP (some a0) 36 w fun t1 w =>
  pureP Pg (Instr.makeFunc (.func 83) #[] #[t1]) fun t3 =>
  R t3 w
theorem f69 {a0 : Value} {w : World} {R : Value → World → Prop} (h : F69 a0 w R) : Calls Pg 69 #[a0] w (retK R) :=
  fn_sound (args := [a0]) Try.func69 (by kernel_rfl) (fun _ => none) (of_eq (by kernel_rfl) (by kernel_rfl) h)
theorem c69 {r : Bool} {a0 : Value} {w : World} {K : Value → World → Prop} (h : F69 a0 w K) : callV Pg r (.func (.func 69) #[] #[]) #[a0] w K :=
  call_of Try.func69 (by kernel_rfl) (by kernel_rfl) (by kernel_rfl) (f69 h)

/-- bytes.Compare -/
def F70 (a0 a1 : Value) (w : World) (R : Value → World → Prop) : Prop :=
  callV Pg true (Fv 84) #[a0, a1] w fun t7 w =>
  R t7 w
theorem f70 {a0 a1 : Value} {w : World} {R : Value → World → Prop} (h : F70 a0 a1 w R) : Calls Pg 70 #[a0, a1] w (retK R) :=
  fn_sound (args := [a0, a1]) Try.func70 (by kernel_rfl) (fun _ => none) (of_eq (by kernel_rfl) (by kernel_rfl) h)
theorem c70 {r : Bool} {a0 a1 : Value} {w : World} {K : Value → World → Prop} (h : F70 a0 a1 w K) : callV Pg r (.func (.func 70) #[] #[]) #[a0, a1] w K :=
  call_of Try.func70 (by kernel_rfl) (by kernel_rfl) (by kernel_rfl) (f70 h)

/-- hourbook/hourbookref25.seen -/
def F71 (a0 a1 a2 : Value) (w : World) (R : Value → World → Prop) : Prop :=
  loopP [(.int .i64 0)] w fun s6 w next6 => -- t7
  pureP Pg (Builtin.len_ #[66] 3 #[a2]) fun t12 =>
  pureP Pg (binS .lss 3 (nthV s6 0) t12) fun t13 =>
  ifV t13 (
    ∃ St : World → Prop, St w.drew ∧ drewP w fun w =>
    pureP Pg (Instr.indexAt 105 a0 a1) fun t18 =>
    pureP Pg (Instr.fieldAt 107 t18 1) fun t19 =>
    readP St (loadW Pg 35 t19) fun t20 =>
    pureP Pg (Instr.indexAt 66 a2 (nthV s6 0)) fun t23 =>
    readP St (loadW Pg 35 t23) fun t24 =>
    pureP Pg (binS .gtr 35 t20 t24) fun t25 =>
    ifV t25 (
      pureP Pg (binS .add 3 (nthV s6 0) (.int .i64 1)) fun t15 =>
      next6 [t15] w
      ) (
      pureP Pg (binS .add 3 a1 (.int .i64 1)) fun t27 =>
      loopP [(.bool true), t27] w fun s27 w next27 => -- t8 t9
      pureP Pg (Builtin.len_ #[105] 3 #[a0]) fun t30 =>
      pureP Pg (binS .lss 3 (nthV s27 1) t30) fun t31 =>
      ifV t31 (
        ∃ St : World → Prop, St w.drew ∧ drewP w fun w =>
        pureP Pg (Instr.indexAt 105 a0 a1) fun t36 =>
        readP St (loadW Pg 107 t36) fun t37 =>
        pureP Pg (Instr.indexAt 105 a0 (nthV s27 1)) fun t40 =>
        readP St (loadW Pg 107 t40) fun t41 =>
        callV Pg false (Fv 72) #[t37, t41] w fun t42 w =>
        St w ∧ (
          ifV t42 (
            pureP Pg (Instr.indexAt 105 a0 (nthV s27 1)) fun t46 =>
            pureP Pg (Instr.fieldAt 107 t46 1) fun t47 =>
            readP St (loadW Pg 35 t47) fun t48 =>
            pureP Pg (Instr.indexAt 66 a2 (nthV s6 0)) fun t51 =>
            readP St (loadW Pg 35 t51) fun t52 =>
            pureP Pg (binS .leq 35 t48 t52) fun t53 =>
            ifV t53 (
              pureP Pg (binS .add 3 (nthV s27 1) (.int .i64 1)) fun t33 =>
              next27 [(.bool false), t33] w
              ) (
              pureP Pg (binS .add 3 (nthV s27 1) (.int .i64 1)) fun t33_1 =>
              next27 [(nthV s27 0), t33_1] w
              )
            ) (
            pureP Pg (binS .add 3 (nthV s27 1) (.int .i64 1)) fun t33_2 =>
            next27 [(nthV s27 0), t33_2] w
            )
        )
        ) (
        ifV (nthV s27 0) (
          R (.bool true) w
          ) (
          pureP Pg (binS .add 3 (nthV s6 0) (.int .i64 1)) fun t15_1 =>
          next6 [t15_1] w
          )
        )
      )
    ) (
    R (.bool false) w
    )
theorem f71 {a0 a1 a2 : Value} {w : World} {R : Value → World → Prop} (h : F71 a0 a1 a2 w R) : Calls Pg 71 #[a0, a1, a2] w (retK R) :=
  fn_sound (args := [a0, a1, a2]) Try.func71 (by kernel_rfl) (annOf [(6, [7]), (27, [8,9])]) (of_eq (by kernel_rfl) (by kernel_rfl) h)
theorem c71 {r : Bool} {a0 a1 a2 : Value} {w : World} {K : Value → World → Prop} (h : F71 a0 a1 a2 w K) : callV Pg r (.func (.func 71) #[] #[]) #[a0, a1, a2] w K :=
  call_of Try.func71 (by kernel_rfl) (by kernel_rfl) (by kernel_rfl) (f71 h)

/-- hourbook/hourbookref25.same -/
def F72 (a0 a1 : Value) (w : World) (R : Value → World → Prop) : Prop :=
  newP (some a0) 107 w fun t2 w =>
  newP (some a1) 107 w fun t3 w =>
  pureP Pg (Instr.fieldAt 107 t2 0) fun t5 =>
  getO (loadW Pg 36 t5 w) fun t6 =>
  getO (runR Pg (convert 36 9 t6) w) fun t7 =>
  pureP Pg (Instr.fieldAt 107 t3 0) fun t8 =>
  getO (loadW Pg 36 t8 w) fun t9 =>
  getO (runR Pg (convert 36 9 t9) w) fun t10 =>
  pureP Pg (binS .eql 9 t7 t10) fun t11 =>
  R t11 w
theorem f72 {a0 a1 : Value} {w : World} {R : Value → World → Prop} (h : F72 a0 a1 w R) : Calls Pg 72 #[a0, a1] w (retK R) :=
  fn_sound (args := [a0, a1]) Try.func72 (by kernel_rfl) (fun _ => none) (of_eq (by kernel_rfl) (by kernel_rfl) h)
theorem c72 {r : Bool} {a0 a1 : Value} {w : World} {K : Value → World → Prop} (h : F72 a0 a1 w K) : callV Pg r (.func (.func 72) #[] #[]) #[a0, a1] w K :=
  call_of Try.func72 (by kernel_rfl) (by kernel_rfl) (by kernel_rfl) (f72 h)

/-- hourbook/key.MayValue -/
def F73 (a0 : Value) (w : World) (R : Value → World → Prop) : Prop :=
  pureP Pg (Builtin.len_ #[36] 3 #[a0]) fun t4 =>
  pureP Pg (binS .leq 3 t4 (.int .i64 1024)) fun t5 =>
  R t5 w
theorem f73 {a0 : Value} {w : World} {R : Value → World → Prop} (h : F73 a0 w R) : Calls Pg 73 #[a0] w (retK R) :=
  fn_sound (args := [a0]) Try.func73 (by kernel_rfl) (fun _ => none) (of_eq (by kernel_rfl) (by kernel_rfl) h)
theorem c73 {r : Bool} {a0 : Value} {w : World} {K : Value → World → Prop} (h : F73 a0 w K) : callV Pg r (.func (.func 73) #[] #[]) #[a0] w K :=
  call_of Try.func73 (by kernel_rfl) (by kernel_rfl) (by kernel_rfl) (f73 h)

/-- hourbook/loc.stands -/
def F74 (a0 : Value) (w : World) (R : Value → World → Prop) : Prop :=
  newP (some a0) 34 w fun t1 w =>
  pureP Pg (Instr.fieldAt 34 t1 0) fun t3 =>
  getO (loadW Pg 32 t3 w) fun t4 =>
  pureP Pg (binS .geq 32 t4 (.int .u32 1)) fun t5 =>
  ifV t5 (
    pureP Pg (Instr.fieldAt 34 t1 0) fun t7 =>
    getO (loadW Pg 32 t7 w) fun t8 =>
    pureP Pg (binS .leq 32 t8 (.int .u32 16777215)) fun t9 =>
    ifV t9 (
      pureP Pg (Instr.fieldAt 34 t1 1) fun t12 =>
      getO (loadW Pg 32 t12 w) fun t13 =>
      pureP Pg (binS .geq 32 t13 (.int .u32 16)) fun t14 =>
      ifV t14 (
        pureP Pg (Instr.fieldAt 34 t1 1) fun t17 =>
        getO (loadW Pg 32 t17 w) fun t18 =>
        pureP Pg (binS .leq 32 t18 (.int .u32 16777216)) fun t19 =>
        R t19 w
        ) (
        R (.bool false) w
        )
      ) (
      R (.bool false) w
      )
    ) (
    R (.bool false) w
    )
theorem f74 {a0 : Value} {w : World} {R : Value → World → Prop} (h : F74 a0 w R) : Calls Pg 74 #[a0] w (retK R) :=
  fn_sound (args := [a0]) Try.func74 (by kernel_rfl) (fun _ => none) (of_eq (by kernel_rfl) (by kernel_rfl) h)
theorem c74 {r : Bool} {a0 : Value} {w : World} {K : Value → World → Prop} (h : F74 a0 w K) : callV Pg r (.func (.func 74) #[] #[]) #[a0] w K :=
  call_of Try.func74 (by kernel_rfl) (by kernel_rfl) (by kernel_rfl) (f74 h)

/-- sort.Search -/
def F75 (a0 a1 : Value) (w : World) (R : Value → World → Prop) : Prop :=
  loopP [(.int .i64 0), a0] w fun s6 w next6 => -- t5 t6
  pureP Pg (binS .lss 3 (nthV s6 0) (nthV s6 1)) fun t11 =>
  ifV t11 (
    pureP Pg (binS .add 3 (nthV s6 0) (nthV s6 1)) fun t14 =>
    pureP Pg (convert 3 161 t14) fun t15 =>
    pureP Pg (binS .shr 161 t15 (.int .u64 1)) fun t16 =>
    pureP Pg (convert 161 3 t16) fun t17 =>
    callV Pg true a1 #[t17] w fun t20 w =>
    pureP Pg (Op.unary .not t20) fun t21 =>
    ifV t21 (
      pureP Pg (binS .add 3 t17 (.int .i64 1)) fun t23 =>
      next6 [t23, (nthV s6 1)] w
      ) (
      next6 [(nthV s6 0), t17] w
      )
    ) (
    R (nthV s6 0) w
    )
theorem f75 {a0 a1 : Value} {w : World} {R : Value → World → Prop} (h : F75 a0 a1 w R) : Calls Pg 75 #[a0, a1] w (retK R) :=
  fn_sound (args := [a0, a1]) Try.func75 (by kernel_rfl) (annOf [(6, [5,6])]) (of_eq (by kernel_rfl) (by kernel_rfl) h)
theorem c75 {r : Bool} {a0 a1 : Value} {w : World} {K : Value → World → Prop} (h : F75 a0 a1 w K) : callV Pg r (.func (.func 75) #[] #[]) #[a0, a1] w K :=
  call_of Try.func75 (by kernel_rfl) (by kernel_rfl) (by kernel_rfl) (f75 h)

/-- hourbook/seen.behind$1 -/
def F76 (a0 a1 a2 : Value) (w : World) (R : Value → World → Prop) : Prop :=
  ∃ St : World → Prop, St w.drew ∧ drewP w fun w =>
  readP St (loadW Pg 53 a1) fun t5 =>
  pureP Pg (Instr.indexAt 53 t5 a0) fun t7 =>
  pureP Pg (Instr.fieldAt 55 t7 0) fun t8 =>
  readP St (loadW Pg 35 t8) fun t9 =>
  readP St (loadW Pg 35 a2) fun t10 =>
  pureP Pg (binS .gtr 35 t9 t10) fun t11 =>
  R t11 w
theorem f76 {a0 a1 a2 : Value} {w : World} {R : Value → World → Prop} (h : F76 a0 a1 a2 w R) : Calls Pg 76 #[a0, a1, a2] w (retK R) :=
  fn_sound (args := [a0, a1, a2]) Try.func76 (by kernel_rfl) (fun _ => none) (of_eq (by kernel_rfl) (by kernel_rfl) h)
theorem c76 {r : Bool} {a0 a1 a2 : Value} {w : World} {K : Value → World → Prop} (h : F76 a0 a1 a2 w K) : callV Pg r (.func (.func 76) #[] #[a1, a2]) #[a0] w K :=
  call_of Try.func76 (by kernel_rfl) (by kernel_rfl) (by kernel_rfl) (f76 h)

/-- hourbook/hourbooklaw20.which -/
def F77 (a0 : Value) (w : World) (R : Value → World → Prop) : Prop :=
  loopP [(.slice none 0 0), (.int .i64 0)] w fun s8 w next8 => -- t3 t4
  pureP Pg (Builtin.len_ #[142] 3 #[a0]) fun t7 =>
  pureP Pg (binS .lss 3 (nthV s8 1) t7) fun t8 =>
  ifV t8 (
    pureP Pg (Instr.indexAt 142 a0 (nthV s8 1)) fun t13 =>
    getO (loadW Pg 4 t13 w) fun t14 =>
    ifV t14 (
      S Pg (Instr.buildSlice 73 1 #[(0, (nthV s8 1))]) w fun t17 w =>
      S Pg (Builtin.append_ #[73, 73] 73 #[(nthV s8 0), t17]) w fun t18 w =>
      pureP Pg (binS .add 3 (nthV s8 1) (.int .i64 1)) fun t10 =>
      next8 [t18, t10] w
      ) (
      pureP Pg (binS .add 3 (nthV s8 1) (.int .i64 1)) fun t10_1 =>
      next8 [(nthV s8 0), t10_1] w
      )
    ) (
    R (nthV s8 0) w
    )
theorem f77 {a0 : Value} {w : World} {R : Value → World → Prop} (h : F77 a0 w R) : Calls Pg 77 #[a0] w (retK R) :=
  fn_sound (args := [a0]) Try.func77 (by kernel_rfl) (annOf [(8, [3,4])]) (of_eq (by kernel_rfl) (by kernel_rfl) h)
theorem c77 {r : Bool} {a0 : Value} {w : World} {K : Value → World → Prop} (h : F77 a0 w K) : callV Pg r (.func (.func 77) #[] #[]) #[a0] w K :=
  call_of Try.func77 (by kernel_rfl) (by kernel_rfl) (by kernel_rfl) (f77 h)

/-- hourbook/seen.Seen -/
def F78 (a0 a1 : Value) (w : World) (R : Value → World → Prop) : Prop :=
  callV Pg true (Fv 53) #[a0] w fun t8 w =>
  pureP Pg (Op.unary .not t8) fun t9 =>
  ifV t9 (
    R (.slice none 0 0) w
    ) (
    pureP Pg (Builtin.len_ #[53] 3 #[a0]) fun t11 =>
    S Pg (Instr.makeSlice 142 t11 t11) w fun t12 w =>
    newP (zeroT Pg 142) 142 w fun t5 w =>
    getU (storeW Pg 142 t5 t12 w) fun w =>
    callV Pg true (Fv 85) #[a0, a1] w fun t15 w =>
    rangeP Pg 1 t15 w (fun xs w next =>
      getO (loadW Pg 142 t5 w) fun t17 =>
      pureP Pg (Instr.indexAt 142 t17 (nthV xs 0)) fun t19 =>
      getU (storeW Pg 4 t19 (.bool true) w) fun w =>
      next w
      ) fun w D16 =>
    getO (loadW Pg 142 t5 w) fun t20 =>
    takeD Pg D16 w fun w =>
    R t20 w
    )
theorem f78 {a0 a1 : Value} {w : World} {R : Value → World → Prop} (h : F78 a0 a1 w R) : Calls Pg 78 #[a0, a1] w (retK R) :=
  fn_sound (args := [a0, a1]) Try.func78 (by kernel_rfl) (fun _ => none) (of_eq (by kernel_rfl) (by kernel_rfl) h)
theorem c78 {r : Bool} {a0 a1 : Value} {w : World} {K : Value → World → Prop} (h : F78 a0 a1 w K) : callV Pg r (.func (.func 78) #[] #[]) #[a0, a1] w K :=
  call_of Try.func78 (by kernel_rfl) (by kernel_rfl) (by kernel_rfl) (f78 h)

/-- hourbook/seen.Kept$1 -/
def F79 (a0 a1 a2 : Value) (w : World) (R : Value → World → Prop) : Prop :=
  newP (some a0) 55 w fun t3 w =>
  getO (loadW Pg 4 a2 w) fun t6 =>
  ifV t6 (
    getU (storeW Pg 4 a2 (.bool true) w) fun w =>
    ifV a1 (
      getO (loadW Pg 4 a2 w) fun t17 =>
      R t17 w
      ) (
      R (.bool false) w
      )
    ) (
    ifV a1 (
      pureP Pg (Instr.fieldAt 55 t3 1) fun t10 =>
      getO (loadW Pg 3 t10 w) fun t11 =>
      pureP Pg (binS .eql 3 t11 (.int .i64 1)) fun t12 =>
      getU (storeW Pg 4 a2 t12 w) fun w =>
      ifV a1 (
        getO (loadW Pg 4 a2 w) fun t17_1 =>
        R t17_1 w
        ) (
        R (.bool false) w
        )
      ) (
      getU (storeW Pg 4 a2 (.bool false) w) fun w =>
      ifV a1 (
        getO (loadW Pg 4 a2 w) fun t17_2 =>
        R t17_2 w
        ) (
        R (.bool false) w
        )
      )
    )
theorem f79 {a0 a1 a2 : Value} {w : World} {R : Value → World → Prop} (h : F79 a0 a1 a2 w R) : Calls Pg 79 #[a0, a1, a2] w (retK R) :=
  fn_sound (args := [a0, a1, a2]) Try.func79 (by kernel_rfl) (fun _ => none) (of_eq (by kernel_rfl) (by kernel_rfl) h)
theorem c79 {r : Bool} {a0 a1 a2 : Value} {w : World} {K : Value → World → Prop} (h : F79 a0 a1 a2 w K) : callV Pg r (.func (.func 79) #[] #[a2]) #[a0, a1] w K :=
  call_of Try.func79 (by kernel_rfl) (by kernel_rfl) (by kernel_rfl) (f79 h)

/-- (*hourbook/probe.Table).home -/
def F80 (a0 a1 : Value) (w : World) (R : Value → World → Prop) : Prop :=
  ∃ St : World → Prop, St w.drew ∧ drewP w fun w =>
  pureP Pg (nilS a0) fun t6 =>
  pureP Pg (Instr.fieldAt 153 t6 0) fun t7 =>
  readP St (loadW Pg 35 t7) fun t8 =>
  pureP Pg (nilS a0) fun t12 =>
  pureP Pg (Instr.fieldAt 153 t12 1) fun t13 =>
  readP St (loadW Pg 93 t13) fun t14 =>
  pureP Pg (Builtin.len_ #[93] 3 #[t14]) fun t15 =>
  pureP Pg (binS .sub 3 t15 (.int .i64 1)) fun t16 =>
  pureP Pg (convert 3 35 t16) fun t17 =>
  callV Pg false (Fv 32) #[t8, a1] w fun t10 w =>
  St w ∧ (
    pureP Pg (binS .and 35 t10 t17) fun t18 =>
    pureP Pg (convert 35 3 t18) fun t19 =>
    R t19 w
  )
theorem f80 {a0 a1 : Value} {w : World} {R : Value → World → Prop} (h : F80 a0 a1 w R) : Calls Pg 80 #[a0, a1] w (retK R) :=
  fn_sound (args := [a0, a1]) Try.func80 (by kernel_rfl) (fun _ => none) (of_eq (by kernel_rfl) (by kernel_rfl) h)
theorem c80 {r : Bool} {a0 a1 : Value} {w : World} {K : Value → World → Prop} (h : F80 a0 a1 w K) : callV Pg r (.func (.func 80) #[] #[]) #[a0, a1] w K :=
  call_of Try.func80 (by kernel_rfl) (by kernel_rfl) (by kernel_rfl) (f80 h)

/-- hourbook/probe.ahead -/
def F81 (a0 a1 a2 : Value) (w : World) (R : Value → World → Prop) : Prop :=
  newP (some a2) 96 w fun t5 w =>
  pureP Pg (Instr.fieldAt 96 t5 0) fun t7 =>
  getO (loadW Pg 4 t7 w) fun t8 =>
  pureP Pg (Op.unary .not t8) fun t9 =>
  ifV t9 (
    R (.bool true) w
    ) (
    pureP Pg (Instr.fieldAt 96 t5 3) fun t12 =>
    getO (loadW Pg 3 t12 w) fun t13 =>
    pureP Pg (binS .gtr 3 a1 t13) fun t14 =>
    ifV t14 (
      R (.bool true) w
      ) (
      pureP Pg (Instr.fieldAt 96 t5 3) fun t18 =>
      getO (loadW Pg 3 t18 w) fun t19 =>
      pureP Pg (binS .eql 3 a1 t19) fun t20 =>
      ifV t20 (
        pureP Pg (Instr.fieldAt 96 t5 1) fun t23 =>
        getO (loadW Pg 36 t23 w) fun t24 =>
        callV Pg true (Fv 70) #[a0, t24] w fun t25 w =>
        pureP Pg (binS .lss 3 t25 (.int .i64 0)) fun t26 =>
        R t26 w
        ) (
        R (.bool false) w
        )
      )
    )
theorem f81 {a0 a1 a2 : Value} {w : World} {R : Value → World → Prop} (h : F81 a0 a1 a2 w R) : Calls Pg 81 #[a0, a1, a2] w (retK R) :=
  fn_sound (args := [a0, a1, a2]) Try.func81 (by kernel_rfl) (fun _ => none) (of_eq (by kernel_rfl) (by kernel_rfl) h)
theorem c81 {r : Bool} {a0 a1 a2 : Value} {w : World} {K : Value → World → Prop} (h : F81 a0 a1 a2 w K) : callV Pg r (.func (.func 81) #[] #[]) #[a0, a1, a2] w K :=
  call_of Try.func81 (by kernel_rfl) (by kernel_rfl) (by kernel_rfl) (f81 h)

/-- (*hourbook/probe.Table).used -/
def F82 (a0 : Value) (w : World) (R : Value → World → Prop) : Prop :=
  pureP Pg (nilS a0) fun t5 =>
  pureP Pg (Instr.fieldAt 153 t5 1) fun t6 =>
  getO (loadW Pg 93 t6 w) fun t7 =>
  newP (zeroT Pg 93) 93 w fun t3 w =>
  getU (storeW Pg 93 t3 t7 w) fun w =>
  pureP Pg (Instr.makeFunc (.func 86) #[] #[t3]) fun t8 =>
  R t8 w
theorem f82 {a0 : Value} {w : World} {R : Value → World → Prop} (h : F82 a0 w R) : Calls Pg 82 #[a0] w (retK R) :=
  fn_sound (args := [a0]) Try.func82 (by kernel_rfl) (fun _ => none) (of_eq (by kernel_rfl) (by kernel_rfl) h)
theorem c82 {r : Bool} {a0 : Value} {w : World} {K : Value → World → Prop} (h : F82 a0 w K) : callV Pg r (.func (.func 82) #[] #[]) #[a0] w K :=
  call_of Try.func82 (by kernel_rfl) (by kernel_rfl) (by kernel_rfl) (f82 h)

/-- hourbook/key.words$1 -/
def F83 (a0 a1 : Value) (w : World) (R : Value → World → Prop) : Prop :=
  loopP [(.int .i64 0)] w fun s3 w next3 => -- t3
  getO (loadW Pg 36 a1 w) fun t8 =>
  pureP Pg (Builtin.len_ #[36] 3 #[t8]) fun t9 =>
  pureP Pg (binS .lss 3 (nthV s3 0) t9) fun t10 =>
  ifV t10 (
    getO (loadW Pg 36 a1 w) fun t13 =>
    pureP Pg (binS .add 3 (nthV s3 0) (.int .i64 8)) fun t16 =>
    getO (loadW Pg 36 a1 w) fun t17 =>
    pureP Pg (Builtin.len_ #[36] 3 #[t17]) fun t18 =>
    pureP Pg (Builtin.min_ #[3, 3] 3 #[t16, t18]) fun t19 =>
    pureP Pg (Instr.sliceAt 36 t13 (some (nthV s3 0)) (some t19) none) fun t20 =>
    pureP Pg (Builtin.len_ #[36] 3 #[t20]) fun t21 =>
    loopP [(.int .u64 0), (.int .i64 0)] w fun s18 w next18 => -- t4 t22
    pureP Pg (binS .lss 3 (nthV s18 1) t21) fun t23 =>
    ifV t23 (
      pureP Pg (Instr.indexAt 36 t20 (nthV s18 1)) fun t25 =>
      getO (loadW Pg 5 t25 w) fun t26 =>
      pureP Pg (convert 5 35 t26) fun t29 =>
      pureP Pg (binS .mul 3 (.int .i64 8) (nthV s18 1)) fun t31 =>
      pureP Pg (binS .shl 35 t29 t31) fun t32 =>
      pureP Pg (binS .or 35 (nthV s18 0) t32) fun t33 =>
      pureP Pg (binS .add 3 (nthV s18 1) (.int .i64 1)) fun t34 =>
      next18 [t33, t34] w
      ) (
      pureP Pg (binS .quo 3 (nthV s3 0) (.int .i64 8)) fun t37 =>
      callV Pg true a0 #[t37, (nthV s18 0)] w fun t39 w =>
      pureP Pg (Op.unary .not t39) fun t40 =>
      ifV t40 (
        R (.tuple #[]) w
        ) (
        pureP Pg (binS .add 3 (nthV s3 0) (.int .i64 8)) fun t12 =>
        next3 [t12] w
        )
      )
    ) (
    R (.tuple #[]) w
    )
theorem f83 {a0 a1 : Value} {w : World} {R : Value → World → Prop} (h : F83 a0 a1 w R) : Calls Pg 83 #[a0, a1] w (retK R) :=
  fn_sound (args := [a0, a1]) Try.func83 (by kernel_rfl) (annOf [(3, [3]), (18, [4,22])]) (of_eq (by kernel_rfl) (by kernel_rfl) h)
theorem c83 {r : Bool} {a0 a1 : Value} {w : World} {K : Value → World → Prop} (h : F83 a0 a1 w K) : callV Pg r (.func (.func 83) #[] #[a1]) #[a0] w K :=
  call_of Try.func83 (by kernel_rfl) (by kernel_rfl) (by kernel_rfl) (f83 h)

/-- hourbook/seen.places -/
def F85 (a0 a1 : Value) (w : World) (R : Value → World → Prop) : Prop :=
  newP (some a0) 53 w fun t2 w =>
  newP (some a1) 66 w fun t3 w =>
  pureP Pg (Instr.makeFunc (.func 87) #[] #[t3, t2]) fun t5 =>
  R t5 w
theorem f85 {a0 a1 : Value} {w : World} {R : Value → World → Prop} (h : F85 a0 a1 w R) : Calls Pg 85 #[a0, a1] w (retK R) :=
  fn_sound (args := [a0, a1]) Try.func85 (by kernel_rfl) (fun _ => none) (of_eq (by kernel_rfl) (by kernel_rfl) h)
theorem c85 {r : Bool} {a0 a1 : Value} {w : World} {K : Value → World → Prop} (h : F85 a0 a1 w K) : callV Pg r (.func (.func 85) #[] #[]) #[a0, a1] w K :=
  call_of Try.func85 (by kernel_rfl) (by kernel_rfl) (by kernel_rfl) (f85 h)

/-- (*hourbook/probe.Table).used$1 -/
def F86 (a0 a1 : Value) (w : World) (R : Value → World → Prop) : Prop :=
  getO (loadW Pg 93 a1 w) fun t5 =>
  pureP Pg (Builtin.len_ #[93] 3 #[t5]) fun t6 =>
  loopP [(.int .i64 0)] w fun s3 w next3 => -- t7
  pureP Pg (binS .lss 3 (nthV s3 0) t6) fun t8 =>
  ifV t8 (
    pureP Pg (Instr.indexAt 93 t5 (nthV s3 0)) fun t9 =>
    getO (loadW Pg 96 t9 w) fun t10 =>
    newP (zeroT Pg 96) 96 w fun t4 w =>
    getU (storeW Pg 96 t4 t10 w) fun w =>
    pureP Pg (Instr.fieldAt 96 t4 0) fun t11 =>
    getO (loadW Pg 4 t11 w) fun t12 =>
    ifV t12 (
      pureP Pg (Instr.fieldAt 96 t4 1) fun t15 =>
      getO (loadW Pg 36 t15 w) fun t16 =>
      pureP Pg (Instr.fieldAt 96 t4 2) fun t17 =>
      getO (loadW Pg 35 t17 w) fun t18 =>
      callV Pg true a0 #[t16, t18] w fun t19 w =>
      pureP Pg (Op.unary .not t19) fun t20 =>
      ifV t20 (
        R (.tuple #[]) w
        ) (
        pureP Pg (binS .add 3 (nthV s3 0) (.int .i64 1)) fun t22 =>
        next3 [t22] w
        )
      ) (
      pureP Pg (binS .add 3 (nthV s3 0) (.int .i64 1)) fun t22_1 =>
      next3 [t22_1] w
      )
    ) (
    R (.tuple #[]) w
    )
theorem f86 {a0 a1 : Value} {w : World} {R : Value → World → Prop} (h : F86 a0 a1 w R) : Calls Pg 86 #[a0, a1] w (retK R) :=
  fn_sound (args := [a0, a1]) Try.func86 (by kernel_rfl) (annOf [(3, [7])]) (of_eq (by kernel_rfl) (by kernel_rfl) h)
theorem c86 {r : Bool} {a0 a1 : Value} {w : World} {K : Value → World → Prop} (h : F86 a0 a1 w K) : callV Pg r (.func (.func 86) #[] #[a1]) #[a0] w K :=
  call_of Try.func86 (by kernel_rfl) (by kernel_rfl) (by kernel_rfl) (f86 h)

/-- hourbook/seen.places$1 -/
def F87 (a0 a1 a2 : Value) (w : World) (R : Value → World → Prop) : Prop :=
  getO (loadW Pg 66 a1 w) fun t7 =>
  pureP Pg (Builtin.len_ #[66] 3 #[t7]) fun t8 =>
  loopP [(.int .i64 0)] w fun s3 w next3 => -- t9
  pureP Pg (binS .lss 3 (nthV s3 0) t8) fun t10 =>
  ifV t10 (
    pureP Pg (Instr.indexAt 66 t7 (nthV s3 0)) fun t11 =>
    getO (loadW Pg 35 t11 w) fun t12 =>
    getO (loadW Pg 53 a2 w) fun t13 =>
    callV Pg true (Fv 54) #[t13, t12] w fun t15 w =>
    pureP Pg (binS .gtr 3 t15 (.int .i64 0)) fun t17 =>
    ifV t17 (
      pureP Pg (binS .sub 3 t15 (.int .i64 1)) fun t21 =>
      callV Pg true a0 #[t21] w fun t22 w =>
      pureP Pg (Op.unary .not t22) fun t23 =>
      ifV t23 (
        R (.tuple #[]) w
        ) (
        pureP Pg (binS .add 3 (nthV s3 0) (.int .i64 1)) fun t25 =>
        next3 [t25] w
        )
      ) (
      pureP Pg (binS .add 3 (nthV s3 0) (.int .i64 1)) fun t25_1 =>
      next3 [t25_1] w
      )
    ) (
    R (.tuple #[]) w
    )
theorem f87 {a0 a1 a2 : Value} {w : World} {R : Value → World → Prop} (h : F87 a0 a1 a2 w R) : Calls Pg 87 #[a0, a1, a2] w (retK R) :=
  fn_sound (args := [a0, a1, a2]) Try.func87 (by kernel_rfl) (annOf [(3, [9])]) (of_eq (by kernel_rfl) (by kernel_rfl) h)
theorem c87 {r : Bool} {a0 a1 a2 : Value} {w : World} {K : Value → World → Prop} (h : F87 a0 a1 a2 w K) : callV Pg r (.func (.func 87) #[] #[a1, a2]) #[a0] w K :=
  call_of Try.func87 (by kernel_rfl) (by kernel_rfl) (by kernel_rfl) (f87 h)

end Go.Proofs.Ytbcmoikpmmjlkaa
