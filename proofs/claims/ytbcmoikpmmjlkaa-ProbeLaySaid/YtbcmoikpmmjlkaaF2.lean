/- lay's transformer, by the engine's second form. -/
import Derived.Test.YtbcmoikpmmjlkaaE2
import Derived.Test.YtbcmoikpmmjlkaaF
namespace Go.Proofs.Ytbcmoikpmmjlkaa
open Go Eng
/-- (*hourbook/probe.Table).lay -/
def F65b (a0 a1 a2 : Value) (w : World) (R : Value → World → Prop) : Prop :=
  callV Pg true (Fv 63) #[a0, a1] w fun t12 w =>
  pureP Pg (Instr.extract t12 0) fun t13 =>
  pureP Pg (Instr.extract t12 1) fun t14 =>
  pureP Pg (Instr.build 96 #[(0, (.bool true)), (1, a1), (2, a2), (3, t14)]) fun t18 =>
  newP (zeroT Pg 96) 96 w fun t8 w =>
  getU (storeW Pg 96 t8 t18 w) fun w =>
  loopP [t13] w fun s6 w next6 => -- t6
  pureP Pg (Instr.fieldAt 96 t8 0) fun t19 =>
  getO (loadW Pg 4 t19 w) fun t20 =>
  ifV t20 (
    joinP (fun J14 =>
      ∃ St : World → Prop, St w.drew ∧ drewP w fun w =>
      pureP Pg (Instr.fieldAt 96 t8 1) fun t21 =>
      readP St (loadW Pg 36 t21) fun t22 =>
      pureP Pg (Instr.fieldAt 96 t8 3) fun t23 =>
      readP St (loadW Pg 3 t23) fun t24 =>
      pureP Pg (nilS a0) fun t26 =>
      pureP Pg (Instr.fieldAt 153 t26 1) fun t27 =>
      readP St (loadW Pg 93 t27) fun t28 =>
      pureP Pg (Instr.indexAt 93 t28 (nthV s6 0)) fun t30 =>
      readP St (loadW Pg 96 t30) fun t31 =>
      callV Pg false (Fv 81) #[t22, t24, t31] w fun t32 w =>
      St w ∧ (
        ifV t32 (
          ∃ St : World → Prop, St w.drew ∧ drewP w fun w =>
          pureP Pg (nilS a0) fun t34 =>
          pureP Pg (Instr.fieldAt 153 t34 1) fun t35 =>
          readP St (loadW Pg 93 t35) fun t36 =>
          pureP Pg (nilS a0) fun t39 =>
          pureP Pg (Instr.fieldAt 153 t39 1) fun t40 =>
          readP St (loadW Pg 93 t40) fun t41 =>
          pureP Pg (Instr.indexAt 93 t41 (nthV s6 0)) fun t43 =>
          readP St (loadW Pg 96 t43) fun t44 =>
          getO (loadW Pg 96 t8 w) fun t45 =>
          St w ∧ (
          getU (storeW Pg 96 t8 t44 w) fun w =>
          St w ∧ (
            pureP Pg (Instr.indexAt 93 t36 (nthV s6 0)) fun t46 =>
            getU (storeW Pg 96 t46 t45 w) fun w =>
            J14 [] w
          ))
          ) (
          J14 [] w
          )
      )
      ) fun _ w =>
    callV Pg true (Fv 67) #[a0, (nthV s6 0)] w fun t49 w =>
    pureP Pg (Instr.fieldAt 96 t8 3) fun t50 =>
    getO (loadW Pg 3 t50 w) fun t51 =>
    pureP Pg (binS .add 3 t51 (.int .i64 1)) fun t52 =>
    pureP Pg (Instr.fieldAt 96 t8 3) fun t53 =>
    getU (storeW Pg 3 t53 t52 w) fun w =>
    next6 [t49] w
    ) (
    pureP Pg (nilS a0) fun t55 =>
    pureP Pg (Instr.fieldAt 153 t55 2) fun t56 =>
    getO (loadW Pg 3 t56 w) fun t57 =>
    pureP Pg (binS .add 3 t57 (.int .i64 1)) fun t58 =>
    pureP Pg (nilS a0) fun t59 =>
    pureP Pg (Instr.fieldAt 153 t59 2) fun t60 =>
    getU (storeW Pg 3 t60 t58 w) fun w =>
    R (.tuple #[]) w
    )
theorem f65b {a0 a1 a2 : Value} {w : World} {R : Value → World → Prop} (h : F65b a0 a1 a2 w R) : Calls Pg 65 #[a0, a1, a2] w (retK R) :=
  fn_sound2 [45] (args := [a0, a1, a2]) Try.func65 (by kernel_rfl) (annOf [(6, [6]), (14, [])]) (of_eq (by kernel_rfl) (by kernel_rfl) h)
theorem c65b {r : Bool} {a0 a1 a2 : Value} {w : World} {K : Value → World → Prop} (h : F65b a0 a1 a2 w K) : callV Pg r (.func (.func 65) #[] #[]) #[a0, a1, a2] w K :=
  call_of Try.func65 (by kernel_rfl) (by kernel_rfl) (by kernel_rfl) (f65b h)
end Go.Proofs.Ytbcmoikpmmjlkaa
