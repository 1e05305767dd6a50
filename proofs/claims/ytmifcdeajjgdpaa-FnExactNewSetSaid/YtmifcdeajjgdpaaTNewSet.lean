/-
  The functions of the program that the laws here reach, in the small language; each is what the translation gives (checked by the kernel).
-/
import Derived.Test.YtmifcdeajjgdpaaD
import Derived.Test.YtmifcdeajjgdpaaProg
import Derived.KernelRfl
set_option linter.unusedVariables false
namespace Go.Proofs.Ytmifcdeajjgdpaa
def c_laws_FnExactNewSet : IFn := ⟨36, [.t 0],
  (.seq (.reg false [⟨some 0, none, .mov (.k (.c (.bool false)))⟩])
  (.seq (.reg false [⟨some 6, none, .call 19 []⟩,
     ⟨some 1, none, .mov (.t 6)⟩])
  (.seq (.reg false [⟨some 7, none, .call 20 []⟩,
     ⟨some 2, none, .mov (.t 7)⟩])
  (.seq (.seq (.reg false [⟨some 8, none, .mov (.t 2)⟩,
      ⟨some 9, none, .mov (.t 1)⟩,
      ⟨some 10, none, .call 21 [.t 8, .t 9]⟩,
      ⟨some 11, none, .un .not (.t 10)⟩])
   (.cond (.t 11) (.seq (.reg false [⟨some 0, none, .mov (.k (.c (.bool false)))⟩])
    (.ret (some [0]))) .skip))
  (.seq (.reg false [⟨some 3, none, .mov (.k (.c (.int .i64 1)))⟩])
  (.seq (.reg false [⟨some 12, none, .mov (.t 2)⟩,
     ⟨some 13, none, .mov (.t 3)⟩,
     ⟨some 14, none, .call 22 [.t 12, .t 13]⟩,
     ⟨some 3, none, .mov (.t 14)⟩])
  (.seq (.reg false [⟨some 4, none, .mov (.k (.c (.int .i64 1)))⟩])
  (.seq (.reg false [⟨some 15, none, .mov (.t 2)⟩,
     ⟨some 16, none, .mov (.t 4)⟩,
     ⟨some 17, none, .call 23 [.t 15, .t 16]⟩,
     ⟨some 4, none, .mov (.t 17)⟩])
  (.seq (.seq (.reg false [⟨some 18, none, .mov (.t 4)⟩,
      ⟨some 19, none, .bin .lss (.t 18) (.k (.c (.int .i64 0)))⟩])
   (.cond (.t 19) (.seq (.reg false [⟨some 0, none, .mov (.k (.c (.bool false)))⟩])
    (.ret (some [0]))) .skip))
  (.seq (.seq (.reg false [⟨some 20, none, .mov (.t 4)⟩,
      ⟨some 21, none, .mov (.t 3)⟩,
      ⟨some 22, none, .bin .neq (.t 20) (.t 21)⟩])
   (.cond (.t 22) (.seq (.reg false [⟨some 0, none, .mov (.k (.c (.bool false)))⟩])
    (.ret (some [0]))) .skip))
  (.seq (.reg false [⟨some 23, none, .call 20 []⟩,
     ⟨some 5, none, .mov (.t 23)⟩])
  (.seq (.seq (.reg false [⟨some 24, none, .mov (.t 5)⟩,
      ⟨some 25, none, .mov (.t 1)⟩,
      ⟨some 26, none, .call 21 [.t 24, .t 25]⟩,
      ⟨some 27, none, .un .not (.t 26)⟩])
   (.cond (.t 27) (.seq (.reg false [⟨some 0, none, .mov (.k (.c (.bool false)))⟩])
    (.ret (some [0]))) .skip))
  (.seq (.reg false [⟨some 4, none, .mov (.k (.c (.int .i64 1)))⟩])
  (.seq (.reg false [⟨some 28, none, .mov (.t 2)⟩,
     ⟨some 29, none, .mov (.t 4)⟩,
     ⟨some 30, none, .call 23 [.t 28, .t 29]⟩,
     ⟨some 4, none, .mov (.t 30)⟩])
  (.seq (.seq (.reg false [⟨some 31, none, .mov (.t 4)⟩,
      ⟨some 32, none, .bin .lss (.t 31) (.k (.c (.int .i64 0)))⟩])
   (.cond (.t 32) (.seq (.reg false [⟨some 0, none, .mov (.k (.c (.bool false)))⟩])
    (.ret (some [0]))) .skip))
  (.seq (.seq (.reg false [⟨some 33, none, .mov (.t 4)⟩,
      ⟨some 34, none, .mov (.t 3)⟩,
      ⟨some 35, none, .bin .neq (.t 33) (.t 34)⟩])
   (.cond (.t 35) (.seq (.reg false [⟨some 0, none, .mov (.k (.c (.bool false)))⟩])
    (.ret (some [0]))) .skip))
  (.seq (.reg false [⟨some 0, none, .mov (.k (.c (.bool true)))⟩])
  (.ret (some [0])))))))))))))))))))⟩
theorem c_laws_FnExactNewSet_ok : trF Try.prog ⟨[], [0]⟩ Try.f5 = some c_laws_FnExactNewSet := by kernel_rfl
def c_spec_NewSet : IFn := ⟨3, [.t 0],
  (.seq (.reg false [⟨some 0, none, .mov (.k (.c .nils))⟩])
  (.seq (.reg false [⟨some 1, none, .lit 0 1 [.int .i64 0] [] 3⟩,
     ⟨some 2, none, .lit 1 1 [.nils] [(0, .t 1)] 52⟩,
     ⟨some 0, none, .mov (.t 2)⟩])
  (.ret (some [0]))))⟩
theorem c_spec_NewSet_ok : trF Try.prog ⟨[], [0]⟩ Try.f19 = some c_spec_NewSet := by kernel_rfl
def c_impl_NewSet : IFn := ⟨3, [.t 0],
  (.seq (.reg false [⟨some 0, none, .mov (.k (.c .nils))⟩])
  (.seq (.reg false [⟨some 1, none, .lit 0 1 [.int .i64 0] [] 3⟩,
     ⟨some 2, none, .lit 1 1 [.nils] [(0, .t 1)] 52⟩,
     ⟨some 0, none, .mov (.t 2)⟩])
  (.ret (some [0]))))⟩
theorem c_impl_NewSet_ok : trF Try.prog ⟨[], [0]⟩ Try.f20 = some c_impl_NewSet := by kernel_rfl
def c_laws_eqIntSS_b0 : IC :=
  (.seq (.seq (.reg false [⟨some 11, none, .mov (.t 5)⟩,
      ⟨some 12, none, .mov (.t 0)⟩,
      ⟨some 13, none, .len (.t 12)⟩,
      ⟨some 14, none, .bin .lss (.t 11) (.t 13)⟩])
   (.cond (.t 14) .skip (.exit 0)))
  (.seq (.block 1 none none
   (.seq (.reg true [⟨some 17, none, .mov (.t 0)⟩,
       ⟨some 18, none, .mov (.t 5)⟩,
       ⟨some 19, none, .ixs (.t 17) (.t 18) 1⟩,
       ⟨some 20, none, .load1 (.t 19)⟩,
       ⟨some 21, none, .mov (.t 1)⟩,
       ⟨some 22, none, .mov (.t 5)⟩,
       ⟨some 23, none, .ixs (.t 21) (.t 22) 1⟩,
       ⟨some 24, none, .load1 (.t 23)⟩,
       ⟨some 25, none, .call 32 [.t 20, .t 24]⟩,
       ⟨some 26, none, .un .not (.t 25)⟩])
    (.cond (.t 26) (.seq (.reg false [⟨some 4, none, .mov (.k (.c (.bool false)))⟩])
     (.ret (some [4]))) .skip)))
  (.reg false [⟨some 15, none, .mov (.t 5)⟩,
    ⟨some 16, none, .bin .add (.t 15) (.k (.c (.int .i64 1)))⟩,
    ⟨some 5, none, .mov (.t 16)⟩])))
def c_laws_eqIntSS : IFn := ⟨27, [.t 4],
  (.seq (.reg false [⟨some 4, none, .mov (.k (.c (.bool false)))⟩])
  (.seq (.seq (.reg false [⟨some 6, none, .mov (.t 0)⟩,
      ⟨some 7, none, .len (.t 6)⟩,
      ⟨some 8, none, .mov (.t 1)⟩,
      ⟨some 9, none, .len (.t 8)⟩,
      ⟨some 10, none, .bin .neq (.t 7) (.t 9)⟩])
   (.cond (.t 10) (.seq (.reg false [⟨some 4, none, .mov (.k (.c (.bool false)))⟩])
    (.ret (some [4]))) .skip))
  (.seq (.seq (.reg false [⟨some 5, none, .mov (.k (.c (.int .i64 0)))⟩])
   (.block 0 (some [0, 1, 5]) (some [])
   (.loop c_laws_eqIntSS_b0)))
  (.seq (.reg false [⟨some 4, none, .mov (.k (.c (.bool true)))⟩])
  (.ret (some [4]))))))⟩
theorem c_laws_eqIntSS_ok : trF Try.prog ⟨[(0, [0, 1, 5], [])], [4]⟩ Try.f21 = some c_laws_eqIntSS := by kernel_rfl
def c_laws_markIntSS_b0 : IC :=
  (.seq (.seq (.reg false [⟨some 6, none, .mov (.t 5)⟩,
      ⟨some 7, none, .mov (.t 0)⟩,
      ⟨some 8, none, .len (.t 7)⟩,
      ⟨some 9, none, .bin .lss (.t 6) (.t 8)⟩])
   (.cond (.t 9) .skip (.exit 0)))
  (.seq (.block 1 none none
   (.reg false [⟨some 12, none, .mov (.t 0)⟩,
      ⟨some 13, none, .mov (.t 5)⟩,
      ⟨some 14, none, .ixs (.t 12) (.t 13) 1⟩,
      ⟨some 15, none, .load1 (.t 14)⟩,
      ⟨some 16, none, .mov (.t 1)⟩,
      ⟨some 17, none, .call 33 [.t 15, .t 16]⟩,
      ⟨some 1, none, .mov (.t 17)⟩]))
  (.reg false [⟨some 10, none, .mov (.t 5)⟩,
    ⟨some 11, none, .bin .add (.t 10) (.k (.c (.int .i64 1)))⟩,
    ⟨some 5, none, .mov (.t 11)⟩])))
def c_laws_markIntSS : IFn := ⟨19, [.t 4],
  (.seq (.reg false [⟨some 4, none, .mov (.k (.c (.int .i64 0)))⟩])
  (.seq (.seq (.reg false [⟨some 5, none, .mov (.k (.c (.int .i64 0)))⟩])
   (.block 0 (some [0, 1, 5]) (some [1])
   (.loop c_laws_markIntSS_b0)))
  (.seq (.reg false [⟨some 18, none, .mov (.t 1)⟩,
     ⟨some 4, none, .mov (.t 18)⟩])
  (.ret (some [4])))))⟩
theorem c_laws_markIntSS_ok : trF Try.prog ⟨[(0, [0, 1, 5], [1])], [4]⟩ Try.f22 = some c_laws_markIntSS := by kernel_rfl
def c_laws_heldIntSS_b0 : IC :=
  (.seq (.seq (.reg false [⟨some 6, none, .mov (.t 5)⟩,
      ⟨some 7, none, .mov (.t 0)⟩,
      ⟨some 8, none, .len (.t 7)⟩,
      ⟨some 9, none, .bin .lss (.t 6) (.t 8)⟩])
   (.cond (.t 9) .skip (.exit 0)))
  (.seq (.block 1 none none
   (.seq (.reg false [⟨some 12, none, .mov (.t 0)⟩,
       ⟨some 13, none, .mov (.t 5)⟩,
       ⟨some 14, none, .ixs (.t 12) (.t 13) 1⟩,
       ⟨some 15, none, .load1 (.t 14)⟩,
       ⟨some 16, none, .mov (.t 1)⟩,
       ⟨some 17, none, .call 34 [.t 15, .t 16]⟩,
       ⟨some 1, none, .mov (.t 17)⟩])
    (.seq (.reg false [⟨some 18, none, .mov (.t 1)⟩,
       ⟨some 19, none, .bin .lss (.t 18) (.k (.c (.int .i64 0)))⟩])
    (.cond (.t 19) (.seq (.reg false [⟨some 4, none, .mov (.k (.c (.int .i64 (-1))))⟩])
     (.ret (some [4]))) .skip))))
  (.reg false [⟨some 10, none, .mov (.t 5)⟩,
    ⟨some 11, none, .bin .add (.t 10) (.k (.c (.int .i64 1)))⟩,
    ⟨some 5, none, .mov (.t 11)⟩])))
def c_laws_heldIntSS : IFn := ⟨21, [.t 4],
  (.seq (.reg false [⟨some 4, none, .mov (.k (.c (.int .i64 0)))⟩])
  (.seq (.seq (.reg false [⟨some 5, none, .mov (.k (.c (.int .i64 0)))⟩])
   (.block 0 (some [0, 1, 5]) (some [1])
   (.loop c_laws_heldIntSS_b0)))
  (.seq (.reg false [⟨some 20, none, .mov (.t 1)⟩,
     ⟨some 4, none, .mov (.t 20)⟩])
  (.ret (some [4])))))⟩
theorem c_laws_heldIntSS_ok : trF Try.prog ⟨[(0, [0, 1, 5], [1])], [4]⟩ Try.f23 = some c_laws_heldIntSS := by kernel_rfl
def c_laws_eqIntS_b0 : IC :=
  (.seq (.seq (.reg false [⟨some 11, none, .mov (.t 5)⟩,
      ⟨some 12, none, .mov (.t 0)⟩,
      ⟨some 13, none, .len (.t 12)⟩,
      ⟨some 14, none, .bin .lss (.t 11) (.t 13)⟩])
   (.cond (.t 14) .skip (.exit 0)))
  (.seq (.block 1 none none
   (.seq (.reg true [⟨some 17, none, .mov (.t 0)⟩,
       ⟨some 18, none, .mov (.t 5)⟩,
       ⟨some 19, none, .ixs (.t 17) (.t 18) 1⟩,
       ⟨some 20, none, .load1 (.t 19)⟩,
       ⟨some 21, none, .mov (.t 1)⟩,
       ⟨some 22, none, .mov (.t 5)⟩,
       ⟨some 23, none, .ixs (.t 21) (.t 22) 1⟩,
       ⟨some 24, none, .load1 (.t 23)⟩,
       ⟨some 25, none, .bin .neq (.t 20) (.t 24)⟩])
    (.cond (.t 25) (.seq (.reg false [⟨some 4, none, .mov (.k (.c (.bool false)))⟩])
     (.ret (some [4]))) .skip)))
  (.reg false [⟨some 15, none, .mov (.t 5)⟩,
    ⟨some 16, none, .bin .add (.t 15) (.k (.c (.int .i64 1)))⟩,
    ⟨some 5, none, .mov (.t 16)⟩])))
def c_laws_eqIntS : IFn := ⟨26, [.t 4],
  (.seq (.reg false [⟨some 4, none, .mov (.k (.c (.bool false)))⟩])
  (.seq (.seq (.reg false [⟨some 6, none, .mov (.t 0)⟩,
      ⟨some 7, none, .len (.t 6)⟩,
      ⟨some 8, none, .mov (.t 1)⟩,
      ⟨some 9, none, .len (.t 8)⟩,
      ⟨some 10, none, .bin .neq (.t 7) (.t 9)⟩])
   (.cond (.t 10) (.seq (.reg false [⟨some 4, none, .mov (.k (.c (.bool false)))⟩])
    (.ret (some [4]))) .skip))
  (.seq (.seq (.reg false [⟨some 5, none, .mov (.k (.c (.int .i64 0)))⟩])
   (.block 0 (some [0, 1, 5]) (some [])
   (.loop c_laws_eqIntS_b0)))
  (.seq (.reg false [⟨some 4, none, .mov (.k (.c (.bool true)))⟩])
  (.ret (some [4]))))))⟩
theorem c_laws_eqIntS_ok : trF Try.prog ⟨[(0, [0, 1, 5], [])], [4]⟩ Try.f32 = some c_laws_eqIntS := by kernel_rfl
def c_laws_markIntS_b0 : IC :=
  (.seq (.seq (.reg false [⟨some 6, none, .mov (.t 5)⟩,
      ⟨some 7, none, .mov (.t 0)⟩,
      ⟨some 8, none, .len (.t 7)⟩,
      ⟨some 9, none, .bin .lss (.t 6) (.t 8)⟩])
   (.cond (.t 9) .skip (.exit 0)))
  (.seq (.block 1 none none
   (.seq (.reg false [⟨some 12, none, .mov (.t 0)⟩,
       ⟨some 13, none, .mov (.t 5)⟩,
       ⟨some 14, none, .mov (.t 1)⟩,
       ⟨some 15, none, .ixs (.t 12) (.t 13) 1⟩,
       ⟨none, none, .store (.t 15) (.t 14) 1⟩])
    (.reg false [⟨some 16, none, .mov (.t 1)⟩,
      ⟨some 17, none, .bin .add (.t 16) (.k (.c (.int .i64 1)))⟩,
      ⟨some 1, none, .mov (.t 17)⟩])))
  (.reg false [⟨some 10, none, .mov (.t 5)⟩,
    ⟨some 11, none, .bin .add (.t 10) (.k (.c (.int .i64 1)))⟩,
    ⟨some 5, none, .mov (.t 11)⟩])))
def c_laws_markIntS : IFn := ⟨19, [.t 4],
  (.seq (.reg false [⟨some 4, none, .mov (.k (.c (.int .i64 0)))⟩])
  (.seq (.seq (.reg false [⟨some 5, none, .mov (.k (.c (.int .i64 0)))⟩])
   (.block 0 (some [0, 1, 5]) (some [1])
   (.loop c_laws_markIntS_b0)))
  (.seq (.reg false [⟨some 18, none, .mov (.t 1)⟩,
     ⟨some 4, none, .mov (.t 18)⟩])
  (.ret (some [4])))))⟩
theorem c_laws_markIntS_ok : trF Try.prog ⟨[(0, [0, 1, 5], [1])], [4]⟩ Try.f33 = some c_laws_markIntS := by kernel_rfl
def c_laws_heldIntS_b0 : IC :=
  (.seq (.seq (.reg false [⟨some 6, none, .mov (.t 5)⟩,
      ⟨some 7, none, .mov (.t 0)⟩,
      ⟨some 8, none, .len (.t 7)⟩,
      ⟨some 9, none, .bin .lss (.t 6) (.t 8)⟩])
   (.cond (.t 9) .skip (.exit 0)))
  (.seq (.block 1 none none
   (.seq (.seq (.reg false [⟨some 12, none, .mov (.t 0)⟩,
        ⟨some 13, none, .mov (.t 5)⟩,
        ⟨some 14, none, .ixs (.t 12) (.t 13) 1⟩,
        ⟨some 15, none, .load1 (.t 14)⟩,
        ⟨some 16, none, .mov (.t 1)⟩,
        ⟨some 17, none, .bin .neq (.t 15) (.t 16)⟩])
     (.cond (.t 17) (.seq (.reg false [⟨some 4, none, .mov (.k (.c (.int .i64 (-1))))⟩])
      (.ret (some [4]))) .skip))
    (.reg false [⟨some 18, none, .mov (.t 1)⟩,
      ⟨some 19, none, .bin .add (.t 18) (.k (.c (.int .i64 1)))⟩,
      ⟨some 1, none, .mov (.t 19)⟩])))
  (.reg false [⟨some 10, none, .mov (.t 5)⟩,
    ⟨some 11, none, .bin .add (.t 10) (.k (.c (.int .i64 1)))⟩,
    ⟨some 5, none, .mov (.t 11)⟩])))
def c_laws_heldIntS : IFn := ⟨21, [.t 4],
  (.seq (.reg false [⟨some 4, none, .mov (.k (.c (.int .i64 0)))⟩])
  (.seq (.seq (.reg false [⟨some 5, none, .mov (.k (.c (.int .i64 0)))⟩])
   (.block 0 (some [0, 1, 5]) (some [1])
   (.loop c_laws_heldIntS_b0)))
  (.seq (.reg false [⟨some 20, none, .mov (.t 1)⟩,
     ⟨some 4, none, .mov (.t 20)⟩])
  (.ret (some [4])))))⟩
theorem c_laws_heldIntS_ok : trF Try.prog ⟨[(0, [0, 1, 5], [1])], [4]⟩ Try.f34 = some c_laws_heldIntS := by kernel_rfl
def T : FuncId → Option IFn
  | 5 => some c_laws_FnExactNewSet
  | 19 => some c_spec_NewSet
  | 20 => some c_impl_NewSet
  | 21 => some c_laws_eqIntSS
  | 22 => some c_laws_markIntSS
  | 23 => some c_laws_heldIntSS
  | 32 => some c_laws_eqIntS
  | 33 => some c_laws_markIntS
  | 34 => some c_laws_heldIntS
  | _ => none
theorem T_5 : T 5 = some c_laws_FnExactNewSet := rfl
theorem T_19 : T 19 = some c_spec_NewSet := rfl
theorem T_20 : T 20 = some c_impl_NewSet := rfl
theorem T_21 : T 21 = some c_laws_eqIntSS := rfl
theorem T_22 : T 22 = some c_laws_markIntSS := rfl
theorem T_23 : T 23 = some c_laws_heldIntSS := rfl
theorem T_32 : T 32 = some c_laws_eqIntS := rfl
theorem T_33 : T 33 = some c_laws_markIntS := rfl
theorem T_34 : T 34 = some c_laws_heldIntS := rfl
theorem ne_name {s t : String} (h : (s == t) = false) : s ≠ t := by simpa using h
theorem tabOk : TabOk Try.prog T := by
  intro f ifn h
  unfold T at h
  split at h
  · injection h with h; subst h; exact ⟨_, _, Try.func5, c_laws_FnExactNewSet_ok, ne_name (by kernel_rfl)⟩
  · injection h with h; subst h; exact ⟨_, _, Try.func19, c_spec_NewSet_ok, ne_name (by kernel_rfl)⟩
  · injection h with h; subst h; exact ⟨_, _, Try.func20, c_impl_NewSet_ok, ne_name (by kernel_rfl)⟩
  · injection h with h; subst h; exact ⟨_, _, Try.func21, c_laws_eqIntSS_ok, ne_name (by kernel_rfl)⟩
  · injection h with h; subst h; exact ⟨_, _, Try.func22, c_laws_markIntSS_ok, ne_name (by kernel_rfl)⟩
  · injection h with h; subst h; exact ⟨_, _, Try.func23, c_laws_heldIntSS_ok, ne_name (by kernel_rfl)⟩
  · injection h with h; subst h; exact ⟨_, _, Try.func32, c_laws_eqIntS_ok, ne_name (by kernel_rfl)⟩
  · injection h with h; subst h; exact ⟨_, _, Try.func33, c_laws_markIntS_ok, ne_name (by kernel_rfl)⟩
  · injection h with h; subst h; exact ⟨_, _, Try.func34, c_laws_heldIntS_ok, ne_name (by kernel_rfl)⟩
  · cases h
end Go.Proofs.Ytmifcdeajjgdpaa
