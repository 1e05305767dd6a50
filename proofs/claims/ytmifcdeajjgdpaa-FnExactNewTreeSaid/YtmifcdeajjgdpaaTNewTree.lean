/-
  The functions of the program that the laws here reach, in the small language; each is what the translation gives (checked by the kernel).
-/
import Derived.Test.YtmifcdeajjgdpaaD
import Derived.Test.YtmifcdeajjgdpaaProg
import Derived.KernelRfl
set_option linter.unusedVariables false
namespace Go.Proofs.Ytmifcdeajjgdpaa
def c_laws_FnExactNewTree : IFn := ⟨9, [.t 0],
  (.seq (.reg false [⟨some 0, none, .mov (.k (.c (.bool false)))⟩])
  (.seq (.reg false [⟨some 3, none, .call 16 []⟩,
     ⟨some 1, none, .alloc [.bool false, .int .i64 0, .int .i64 0, .int .i64 0, .bool false, .int .i64 0, .int .i64 0, .int .i64 0, .bool false, .int .i64 0, .int .i64 0, .int .i64 0, .bool false, .int .i64 0, .int .i64 0, .int .i64 0, .bool false, .int .i64 0, .int .i64 0, .int .i64 0, .bool false, .int .i64 0, .int .i64 0, .int .i64 0, .bool false, .int .i64 0, .int .i64 0, .int .i64 0, .bool false, .int .i64 0, .int .i64 0, .int .i64 0, .bool false, .int .i64 0, .int .i64 0, .int .i64 0, .bool false, .int .i64 0, .int .i64 0, .int .i64 0, .bool false, .int .i64 0, .int .i64 0, .int .i64 0, .bool false, .int .i64 0, .int .i64 0, .int .i64 0, .bool false, .int .i64 0, .int .i64 0, .int .i64 0, .bool false, .int .i64 0, .int .i64 0, .int .i64 0, .bool false, .int .i64 0, .int .i64 0, .int .i64 0, .bool false, .int .i64 0, .int .i64 0, .int .i64 0, .int .i64 0] 34⟩,
     ⟨none, none, .store (.t 1) (.t 3) 65⟩])
  (.seq (.reg false [⟨some 4, none, .call 17 []⟩,
     ⟨some 2, none, .alloc [.bool false, .int .i64 0, .int .i64 0, .int .i64 0, .bool false, .int .i64 0, .int .i64 0, .int .i64 0, .bool false, .int .i64 0, .int .i64 0, .int .i64 0, .bool false, .int .i64 0, .int .i64 0, .int .i64 0, .bool false, .int .i64 0, .int .i64 0, .int .i64 0, .bool false, .int .i64 0, .int .i64 0, .int .i64 0, .bool false, .int .i64 0, .int .i64 0, .int .i64 0, .bool false, .int .i64 0, .int .i64 0, .int .i64 0, .bool false, .int .i64 0, .int .i64 0, .int .i64 0, .bool false, .int .i64 0, .int .i64 0, .int .i64 0, .bool false, .int .i64 0, .int .i64 0, .int .i64 0, .bool false, .int .i64 0, .int .i64 0, .int .i64 0, .bool false, .int .i64 0, .int .i64 0, .int .i64 0, .bool false, .int .i64 0, .int .i64 0, .int .i64 0, .bool false, .int .i64 0, .int .i64 0, .int .i64 0, .bool false, .int .i64 0, .int .i64 0, .int .i64 0, .int .i64 0] 34⟩,
     ⟨none, none, .store (.t 2) (.t 4) 65⟩])
  (.seq (.seq (.reg false [⟨some 5, none, .loadN (.t 2) 65⟩,
      ⟨some 6, none, .loadN (.t 1) 65⟩,
      ⟨some 7, none, .call 18 [.t 5, .t 6]⟩,
      ⟨some 8, none, .un .not (.t 7)⟩])
   (.cond (.t 8) (.seq (.reg false [⟨some 0, none, .mov (.k (.c (.bool false)))⟩])
    (.ret (some [0]))) .skip))
  (.seq (.reg false [⟨some 0, none, .mov (.k (.c (.bool true)))⟩])
  (.ret (some [0])))))))⟩
theorem c_laws_FnExactNewTree_ok : trF Try.prog ⟨[], [0]⟩ Try.f4 = some c_laws_FnExactNewTree := by kernel_rfl
def c_spec_NewTree : IFn := ⟨2, [.cell 0 65 true],
  (.seq (.reg false [⟨some 0, none, .alloc [.bool false, .int .i64 0, .int .i64 0, .int .i64 0, .bool false, .int .i64 0, .int .i64 0, .int .i64 0, .bool false, .int .i64 0, .int .i64 0, .int .i64 0, .bool false, .int .i64 0, .int .i64 0, .int .i64 0, .bool false, .int .i64 0, .int .i64 0, .int .i64 0, .bool false, .int .i64 0, .int .i64 0, .int .i64 0, .bool false, .int .i64 0, .int .i64 0, .int .i64 0, .bool false, .int .i64 0, .int .i64 0, .int .i64 0, .bool false, .int .i64 0, .int .i64 0, .int .i64 0, .bool false, .int .i64 0, .int .i64 0, .int .i64 0, .bool false, .int .i64 0, .int .i64 0, .int .i64 0, .bool false, .int .i64 0, .int .i64 0, .int .i64 0, .bool false, .int .i64 0, .int .i64 0, .int .i64 0, .bool false, .int .i64 0, .int .i64 0, .int .i64 0, .bool false, .int .i64 0, .int .i64 0, .int .i64 0, .bool false, .int .i64 0, .int .i64 0, .int .i64 0, .int .i64 0] 34⟩])
  (.seq (.reg false [⟨some 1, none, .bld [.bool false, .int .i64 0, .int .i64 0, .int .i64 0, .bool false, .int .i64 0, .int .i64 0, .int .i64 0, .bool false, .int .i64 0, .int .i64 0, .int .i64 0, .bool false, .int .i64 0, .int .i64 0, .int .i64 0, .bool false, .int .i64 0, .int .i64 0, .int .i64 0, .bool false, .int .i64 0, .int .i64 0, .int .i64 0, .bool false, .int .i64 0, .int .i64 0, .int .i64 0, .bool false, .int .i64 0, .int .i64 0, .int .i64 0, .bool false, .int .i64 0, .int .i64 0, .int .i64 0, .bool false, .int .i64 0, .int .i64 0, .int .i64 0, .bool false, .int .i64 0, .int .i64 0, .int .i64 0, .bool false, .int .i64 0, .int .i64 0, .int .i64 0, .bool false, .int .i64 0, .int .i64 0, .int .i64 0, .bool false, .int .i64 0, .int .i64 0, .int .i64 0, .bool false, .int .i64 0, .int .i64 0, .int .i64 0, .bool false, .int .i64 0, .int .i64 0, .int .i64 0, .int .i64 0] [(64, (1, .k (.c (.int .i64 (-1)))))]⟩,
     ⟨none, none, .store (.t 0) (.t 1) 65⟩])
  (.ret (some [0]))))⟩
theorem c_spec_NewTree_ok : trF Try.prog ⟨[], [0]⟩ Try.f16 = some c_spec_NewTree := by kernel_rfl
def c_impl_NewTree : IFn := ⟨2, [.cell 0 65 true],
  (.seq (.reg false [⟨some 0, none, .alloc [.bool false, .int .i64 0, .int .i64 0, .int .i64 0, .bool false, .int .i64 0, .int .i64 0, .int .i64 0, .bool false, .int .i64 0, .int .i64 0, .int .i64 0, .bool false, .int .i64 0, .int .i64 0, .int .i64 0, .bool false, .int .i64 0, .int .i64 0, .int .i64 0, .bool false, .int .i64 0, .int .i64 0, .int .i64 0, .bool false, .int .i64 0, .int .i64 0, .int .i64 0, .bool false, .int .i64 0, .int .i64 0, .int .i64 0, .bool false, .int .i64 0, .int .i64 0, .int .i64 0, .bool false, .int .i64 0, .int .i64 0, .int .i64 0, .bool false, .int .i64 0, .int .i64 0, .int .i64 0, .bool false, .int .i64 0, .int .i64 0, .int .i64 0, .bool false, .int .i64 0, .int .i64 0, .int .i64 0, .bool false, .int .i64 0, .int .i64 0, .int .i64 0, .bool false, .int .i64 0, .int .i64 0, .int .i64 0, .bool false, .int .i64 0, .int .i64 0, .int .i64 0, .int .i64 0] 34⟩])
  (.seq (.reg false [⟨some 1, none, .bld [.bool false, .int .i64 0, .int .i64 0, .int .i64 0, .bool false, .int .i64 0, .int .i64 0, .int .i64 0, .bool false, .int .i64 0, .int .i64 0, .int .i64 0, .bool false, .int .i64 0, .int .i64 0, .int .i64 0, .bool false, .int .i64 0, .int .i64 0, .int .i64 0, .bool false, .int .i64 0, .int .i64 0, .int .i64 0, .bool false, .int .i64 0, .int .i64 0, .int .i64 0, .bool false, .int .i64 0, .int .i64 0, .int .i64 0, .bool false, .int .i64 0, .int .i64 0, .int .i64 0, .bool false, .int .i64 0, .int .i64 0, .int .i64 0, .bool false, .int .i64 0, .int .i64 0, .int .i64 0, .bool false, .int .i64 0, .int .i64 0, .int .i64 0, .bool false, .int .i64 0, .int .i64 0, .int .i64 0, .bool false, .int .i64 0, .int .i64 0, .int .i64 0, .bool false, .int .i64 0, .int .i64 0, .int .i64 0, .bool false, .int .i64 0, .int .i64 0, .int .i64 0, .int .i64 0] [(64, (1, .k (.c (.int .i64 (-1)))))]⟩,
     ⟨none, none, .store (.t 0) (.t 1) 65⟩])
  (.ret (some [0]))))⟩
theorem c_impl_NewTree_ok : trF Try.prog ⟨[], [0]⟩ Try.f17 = some c_impl_NewTree := by kernel_rfl
def c_laws_eqTree : IFn := ⟨16, [.t 4],
  (.seq (.reg false [⟨some 2, none, .box (.t 0) 34⟩,
     ⟨some 3, none, .box (.t 1) 34⟩,
     ⟨some 4, none, .mov (.k (.c (.bool false)))⟩])
  (.seq (.seq (.reg false [⟨some 5, none, .fld (.t 2) 0⟩,
      ⟨some 6, none, .loadN (.t 5) 64⟩,
      ⟨some 7, none, .fld (.t 3) 0⟩,
      ⟨some 8, none, .loadN (.t 7) 64⟩,
      ⟨some 9, none, .call 46 [.t 6, .t 8]⟩,
      ⟨some 10, none, .un .not (.t 9)⟩])
   (.cond (.t 10) (.seq (.reg false [⟨some 4, none, .mov (.k (.c (.bool false)))⟩])
    (.ret (some [4]))) .skip))
  (.seq (.seq (.reg false [⟨some 11, none, .fld (.t 2) 64⟩,
      ⟨some 12, none, .load1 (.t 11)⟩,
      ⟨some 13, none, .fld (.t 3) 64⟩,
      ⟨some 14, none, .load1 (.t 13)⟩,
      ⟨some 15, none, .bin .neq (.t 12) (.t 14)⟩])
   (.cond (.t 15) (.seq (.reg false [⟨some 4, none, .mov (.k (.c (.bool false)))⟩])
    (.ret (some [4]))) .skip))
  (.seq (.reg false [⟨some 4, none, .mov (.k (.c (.bool true)))⟩])
  (.ret (some [4]))))))⟩
theorem c_laws_eqTree_ok : trF Try.prog ⟨[], [4]⟩ Try.f18 = some c_laws_eqTree := by kernel_rfl
def c_laws_eqTwigA16_b0 : IC :=
  (.seq (.seq (.reg false [⟨some 6, none, .mov (.t 5)⟩,
      ⟨some 7, none, .bin .lss (.t 6) (.k (.c (.int .i64 16)))⟩])
   (.cond (.t 7) .skip (.exit 0)))
  (.seq (.block 1 none none
   (.seq (.reg true [⟨some 10, none, .mov (.t 5)⟩,
       ⟨some 11, none, .ixa (.t 2) (.t 10) 16 4⟩,
       ⟨some 12, none, .loadN (.t 11) 4⟩,
       ⟨some 13, none, .mov (.t 5)⟩,
       ⟨some 14, none, .ixa (.t 3) (.t 13) 16 4⟩,
       ⟨some 15, none, .loadN (.t 14) 4⟩,
       ⟨some 16, none, .call 57 [.t 12, .t 15]⟩,
       ⟨some 17, none, .un .not (.t 16)⟩])
    (.cond (.t 17) (.seq (.reg false [⟨some 4, none, .mov (.k (.c (.bool false)))⟩])
     (.ret (some [4]))) .skip)))
  (.reg false [⟨some 8, none, .mov (.t 5)⟩,
    ⟨some 9, none, .bin .add (.t 8) (.k (.c (.int .i64 1)))⟩,
    ⟨some 5, none, .mov (.t 9)⟩])))
def c_laws_eqTwigA16 : IFn := ⟨18, [.t 4],
  (.seq (.reg false [⟨some 2, none, .box (.t 0) 32⟩,
     ⟨some 3, none, .box (.t 1) 32⟩,
     ⟨some 4, none, .mov (.k (.c (.bool false)))⟩])
  (.seq (.seq (.reg false [⟨some 5, none, .mov (.k (.c (.int .i64 0)))⟩])
   (.block 0 (some [2, 3, 5]) (some [])
   (.loop c_laws_eqTwigA16_b0)))
  (.seq (.reg false [⟨some 4, none, .mov (.k (.c (.bool true)))⟩])
  (.ret (some [4])))))⟩
theorem c_laws_eqTwigA16_ok : trF Try.prog ⟨[(0, [2, 3, 5], [])], [4]⟩ Try.f46 = some c_laws_eqTwigA16 := by kernel_rfl
def c_laws_eqTwig : IFn := ⟨25, [.t 4],
  (.seq (.reg false [⟨some 2, none, .box (.t 0) 31⟩,
     ⟨some 3, none, .box (.t 1) 31⟩,
     ⟨some 4, none, .mov (.k (.c (.bool false)))⟩])
  (.seq (.seq (.reg false [⟨some 5, none, .fld (.t 2) 0⟩,
      ⟨some 6, none, .load1 (.t 5)⟩,
      ⟨some 7, none, .fld (.t 3) 0⟩,
      ⟨some 8, none, .load1 (.t 7)⟩,
      ⟨some 9, none, .binb true (.t 6) (.t 8)⟩])
   (.cond (.t 9) (.seq (.reg false [⟨some 4, none, .mov (.k (.c (.bool false)))⟩])
    (.ret (some [4]))) .skip))
  (.seq (.seq (.reg false [⟨some 10, none, .fld (.t 2) 1⟩,
      ⟨some 11, none, .load1 (.t 10)⟩,
      ⟨some 12, none, .fld (.t 3) 1⟩,
      ⟨some 13, none, .load1 (.t 12)⟩,
      ⟨some 14, none, .bin .neq (.t 11) (.t 13)⟩])
   (.cond (.t 14) (.seq (.reg false [⟨some 4, none, .mov (.k (.c (.bool false)))⟩])
    (.ret (some [4]))) .skip))
  (.seq (.seq (.reg false [⟨some 15, none, .fld (.t 2) 2⟩,
      ⟨some 16, none, .load1 (.t 15)⟩,
      ⟨some 17, none, .fld (.t 3) 2⟩,
      ⟨some 18, none, .load1 (.t 17)⟩,
      ⟨some 19, none, .bin .neq (.t 16) (.t 18)⟩])
   (.cond (.t 19) (.seq (.reg false [⟨some 4, none, .mov (.k (.c (.bool false)))⟩])
    (.ret (some [4]))) .skip))
  (.seq (.seq (.reg false [⟨some 20, none, .fld (.t 2) 3⟩,
      ⟨some 21, none, .load1 (.t 20)⟩,
      ⟨some 22, none, .fld (.t 3) 3⟩,
      ⟨some 23, none, .load1 (.t 22)⟩,
      ⟨some 24, none, .bin .neq (.t 21) (.t 23)⟩])
   (.cond (.t 24) (.seq (.reg false [⟨some 4, none, .mov (.k (.c (.bool false)))⟩])
    (.ret (some [4]))) .skip))
  (.seq (.reg false [⟨some 4, none, .mov (.k (.c (.bool true)))⟩])
  (.ret (some [4]))))))))⟩
theorem c_laws_eqTwig_ok : trF Try.prog ⟨[], [4]⟩ Try.f57 = some c_laws_eqTwig := by kernel_rfl
def T : FuncId → Option IFn
  | 4 => some c_laws_FnExactNewTree
  | 16 => some c_spec_NewTree
  | 17 => some c_impl_NewTree
  | 18 => some c_laws_eqTree
  | 46 => some c_laws_eqTwigA16
  | 57 => some c_laws_eqTwig
  | _ => none
theorem T_4 : T 4 = some c_laws_FnExactNewTree := rfl
theorem T_16 : T 16 = some c_spec_NewTree := rfl
theorem T_17 : T 17 = some c_impl_NewTree := rfl
theorem T_18 : T 18 = some c_laws_eqTree := rfl
theorem T_46 : T 46 = some c_laws_eqTwigA16 := rfl
theorem T_57 : T 57 = some c_laws_eqTwig := rfl
theorem ne_name {s t : String} (h : (s == t) = false) : s ≠ t := by simpa using h
theorem tabOk : TabOk Try.prog T := by
  intro f ifn h
  unfold T at h
  split at h
  · injection h with h; subst h; exact ⟨_, _, Try.func4, c_laws_FnExactNewTree_ok, ne_name (by kernel_rfl)⟩
  · injection h with h; subst h; exact ⟨_, _, Try.func16, c_spec_NewTree_ok, ne_name (by kernel_rfl)⟩
  · injection h with h; subst h; exact ⟨_, _, Try.func17, c_impl_NewTree_ok, ne_name (by kernel_rfl)⟩
  · injection h with h; subst h; exact ⟨_, _, Try.func18, c_laws_eqTree_ok, ne_name (by kernel_rfl)⟩
  · injection h with h; subst h; exact ⟨_, _, Try.func46, c_laws_eqTwigA16_ok, ne_name (by kernel_rfl)⟩
  · injection h with h; subst h; exact ⟨_, _, Try.func57, c_laws_eqTwig_ok, ne_name (by kernel_rfl)⟩
  · cases h
end Go.Proofs.Ytmifcdeajjgdpaa
