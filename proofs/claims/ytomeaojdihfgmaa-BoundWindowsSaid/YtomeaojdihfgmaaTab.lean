/- The functions of the cut as the evaluator's literals, each shown to be what the translation of its body comes to. -/
import Derived.Test.YtomeaojdihfgmaaChecked
import Derived.Test.YtomeaojdihfgmaaVmE
import Derived.KernelRfl
namespace Go.Proofs.Ytomeaojdihfgmaa
open Go Go.VM Go.Proofs
set_option linter.unusedVariables false
/-- tailwater/tailwaterlaw39.BoundWindows -/
def k3 : List Nat := [0, 1, 2, 4, 5, 6, 7, 8, 9, 10, 12, 30, 49]
def v3 : VFn := ⟨61,
 .seq (.region [⟨some 2, none, .box 27 10 (.t 0)⟩,
    ⟨some 4, none, .mv (.c (.d (.lit (.bool false))))⟩] false [] k3)
  (.seq (.seq (.region [⟨some 11, none, .load 10 true (.t 2)⟩,
      ⟨some 12, none, .call 4 [.t 11]⟩] false [] k3)
    (.cond (.t 12)
     (.seq (.region [⟨some 4, none, .mv (.c (.d (.lit (.bool true))))⟩] false [] k3)
      (.ret))
     (.skip)))
   (.seq (.region [⟨some 14, none, .load 10 true (.t 2)⟩,
      ⟨some 15, none, .call 5 [.t 14]⟩,
      ⟨some 13, none, .mv (.t 15)⟩,
      ⟨some 16, none, .ext (.t 13) 0⟩,
      ⟨some 17, none, .ext (.t 13) 1⟩,
      ⟨some 5, none, .mv (.t 16)⟩,
      ⟨some 6, none, .mv (.t 17)⟩] false [] k3)
    (.seq (.region [⟨some 19, none, .load 10 true (.t 2)⟩,
       ⟨some 20, none, .call 6 [.t 19]⟩,
       ⟨some 18, none, .mv (.t 20)⟩,
       ⟨some 21, none, .ext (.t 18) 0⟩,
       ⟨some 22, none, .ext (.t 18) 1⟩,
       ⟨some 7, none, .mv (.t 21)⟩,
       ⟨some 8, none, .mv (.t 22)⟩] false [] k3)
     (.seq (.seq (.region [⟨some 23, none, .mv (.t 5)⟩,
         ⟨some 24, none, .mv (.t 7)⟩,
         ⟨some 25, none, .bin .neq (.t 23) (.t 24)⟩,
         ⟨some 26, none, .mv (.t 25)⟩,
         ⟨some 27, some (3, false), .mv (.t 6)⟩,
         ⟨some 28, some (3, false), .mv (.t 8)⟩,
         ⟨some 29, some (3, false), .bin .neq (.t 27) (.t 28)⟩,
         ⟨some 30, none, .pick (.t 26) (.c (.d (.lit (.bool true)))) (.t 29)⟩] false [] k3)
       (.cond (.t 30)
        (.seq (.region [⟨some 4, none, .mv (.c (.d (.lit (.bool false))))⟩] false [] k3)
         (.ret))
        (.skip)))
      (.seq (.region [⟨some 32, none, .fa 5 (.t 2)⟩,
         ⟨some 33, none, .load 3 true (.t 32)⟩,
         ⟨some 34, none, .mv (.t 1)⟩,
         ⟨some 35, none, .call 7 [.t 33, .t 34]⟩,
         ⟨some 31, none, .mv (.t 35)⟩,
         ⟨some 36, none, .ext (.t 31) 0⟩,
         ⟨some 37, none, .ext (.t 31) 1⟩,
         ⟨some 9, none, .mv (.t 36)⟩,
         ⟨some 10, none, .mv (.t 37)⟩] false [] k3)
       (.seq (.seq (.region [⟨some 38, none, .mv (.t 6)⟩,
           ⟨some 39, none, .bin .neq (.t 38) (.c (.d (.lit (.int .i64 0))))⟩,
           ⟨some 40, none, .mv (.t 39)⟩,
           ⟨some 41, some (2, false), .mv (.t 10)⟩,
           ⟨some 42, some (2, false), .bin .neq (.t 41) (.c (.d (.lit (.int .i64 0))))⟩,
           ⟨some 43, none, .pick (.t 40) (.c (.d (.lit (.bool true)))) (.t 42)⟩,
           ⟨some 44, none, .mv (.t 43)⟩,
           ⟨some 45, some (6, false), .fa 5 (.t 2)⟩,
           ⟨some 46, some (6, false), .fa 0 (.t 45)⟩,
           ⟨some 47, some (6, false), .load 1 false (.t 46)⟩,
           ⟨some 48, some (6, false), .bin .neq (.t 47) (.c (.d (.lit (.int .u8 2))))⟩,
           ⟨some 49, none, .pick (.t 44) (.c (.d (.lit (.bool true)))) (.t 48)⟩] false [] k3)
         (.cond (.t 49)
          (.seq (.region [⟨some 4, none, .mv (.c (.d (.lit (.bool true))))⟩] false [] k3)
           (.ret))
          (.skip)))
        (.seq (.region [⟨some 50, none, .mv (.t 9)⟩,
           ⟨some 51, none, .len (.t 50)⟩,
           ⟨some 52, none, .mv (.t 5)⟩,
           ⟨some 53, none, .bin .leq (.t 51) (.t 52)⟩,
           ⟨some 54, none, .mv (.t 53)⟩,
           ⟨some 55, some (4, true), .mv (.t 9)⟩,
           ⟨some 56, some (4, true), .len (.t 55)⟩,
           ⟨some 57, some (4, true), .mv (.t 5)⟩,
           ⟨some 58, some (4, true), .bin .sub (.t 57) (.c (.d (.lit (.int .i64 1))))⟩,
           ⟨some 59, some (4, true), .bin .geq (.t 56) (.t 58)⟩,
           ⟨some 60, none, .pick (.t 54) (.t 59) (.c (.d (.lit (.bool false))))⟩,
           ⟨some 4, none, .mv (.t 60)⟩] false [] k3)
         (.ret)))))))),
 [(4, none)]⟩
theorem ok3 : FnOk Try.prog 3 v3 := ⟨Try.f3, _, k3, Try.func3, by kernel_rfl, rfl, by kernel_rfl, by kernel_rfl, by kernel_rfl, by kernel_rfl⟩
/-- tailwater/tailwaterref08.Great -/
def k4 : List Nat := [0, 1, 2]
def v4 : VFn := ⟨17,
 .seq (.region [⟨some 1, none, .box 27 10 (.t 0)⟩,
    ⟨some 2, none, .mv (.c (.d (.lit (.bool false))))⟩] false [] k4)
  (.seq (.region [⟨some 3, none, .fa 1 (.t 1)⟩,
     ⟨some 4, none, .load 1 false (.t 3)⟩,
     ⟨some 5, none, .call 8 [.t 4]⟩,
     ⟨some 6, none, .mv (.t 5)⟩,
     ⟨some 7, some (3, false), .fa 4 (.t 1)⟩,
     ⟨some 8, some (3, false), .load 1 false (.t 7)⟩,
     ⟨some 9, some (3, false), .call 8 [.t 8]⟩,
     ⟨some 10, none, .pick (.t 6) (.c (.d (.lit (.bool true)))) (.t 9)⟩,
     ⟨some 11, none, .mv (.t 10)⟩,
     ⟨some 12, some (8, false), .fa 2 (.t 1)⟩,
     ⟨some 13, some (8, false), .load 1 false (.t 12)⟩,
     ⟨some 14, some (8, false), .len (.t 13)⟩,
     ⟨some 15, some (8, false), .bin .gtr (.t 14) (.c (.d (.lit (.int .i64 10))))⟩,
     ⟨some 16, none, .pick (.t 11) (.c (.d (.lit (.bool true)))) (.t 15)⟩,
     ⟨some 2, none, .mv (.t 16)⟩] false [] k4)
   (.ret)),
 [(2, none)]⟩
theorem ok4 : FnOk Try.prog 4 v4 := ⟨Try.f4, _, k4, Try.func4, by kernel_rfl, rfl, by kernel_rfl, by kernel_rfl, by kernel_rfl, by kernel_rfl⟩
/-- tailwater/bound.Many -/
def k5 : List Nat := [0, 1, 2, 3, 5, 12]
def v5 : VFn := ⟨17,
 .seq (.region [⟨some 1, none, .box 27 10 (.t 0)⟩,
    ⟨some 2, none, .mv (.c (.d (.lit (.int .i64 0))))⟩,
    ⟨some 3, none, .mv (.c (.d (.lit (.int .i64 0))))⟩] false [] k5)
  (.seq (.seq (.region [⟨some 7, none, .load 10 true (.t 1)⟩,
      ⟨some 8, none, .call 9 [.t 7]⟩,
      ⟨some 6, none, .mv (.t 8)⟩,
      ⟨some 9, none, .ext (.t 6) 0⟩,
      ⟨some 10, none, .ext (.t 6) 1⟩,
      ⟨some 4, none, .mv (.t 9)⟩,
      ⟨some 5, none, .mv (.t 10)⟩] false [] k5)
    (.seq (.region [⟨some 11, none, .mv (.t 5)⟩,
       ⟨some 12, none, .bin .neq (.t 11) (.c (.d (.lit (.int .i64 0))))⟩] false [] k5)
     (.cond (.t 12)
      (.seq (.region [⟨some 13, none, .mv (.t 5)⟩,
         ⟨some 2, none, .mv (.c (.d (.lit (.int .i64 0))))⟩,
         ⟨some 3, none, .mv (.t 13)⟩] false [] k5)
       (.ret))
      (.skip))))
   (.seq (.region [⟨some 14, none, .fa 5 (.t 1)⟩,
      ⟨some 15, none, .load 3 true (.t 14)⟩,
      ⟨some 16, none, .call 10 [.t 15]⟩,
      ⟨some 2, none, .mv (.t 16)⟩,
      ⟨some 3, none, .mv (.c (.d (.lit (.int .i64 0))))⟩] false [] k5)
    (.ret))),
 [(2, none), (3, none)]⟩
theorem ok5 : FnOk Try.prog 5 v5 := ⟨Try.f5, _, k5, Try.func5, by kernel_rfl, rfl, by kernel_rfl, by kernel_rfl, by kernel_rfl, by kernel_rfl⟩
/-- tailwater/tailwaterref39.Many -/
def k6 : List Nat := [0, 1, 2, 3, 5, 12]
def v6 : VFn := ⟨16,
 .seq (.region [⟨some 1, none, .box 27 10 (.t 0)⟩,
    ⟨some 2, none, .mv (.c (.d (.lit (.int .i64 0))))⟩,
    ⟨some 3, none, .mv (.c (.d (.lit (.int .i64 0))))⟩] false [] k6)
  (.seq (.seq (.region [⟨some 7, none, .load 10 true (.t 1)⟩,
      ⟨some 8, none, .call 11 [.t 7]⟩,
      ⟨some 6, none, .mv (.t 8)⟩,
      ⟨some 9, none, .ext (.t 6) 0⟩,
      ⟨some 10, none, .ext (.t 6) 1⟩,
      ⟨some 4, none, .mv (.t 9)⟩,
      ⟨some 5, none, .mv (.t 10)⟩] false [] k6)
    (.seq (.region [⟨some 11, none, .mv (.t 5)⟩,
       ⟨some 12, none, .bin .neq (.t 11) (.c (.d (.lit (.int .i64 0))))⟩] false [] k6)
     (.cond (.t 12)
      (.seq (.region [⟨some 13, none, .mv (.t 5)⟩,
         ⟨some 2, none, .mv (.c (.d (.lit (.int .i64 0))))⟩,
         ⟨some 3, none, .mv (.t 13)⟩] false [] k6)
       (.ret))
      (.skip))))
   (.seq (.region [⟨some 14, none, .load 10 true (.t 1)⟩,
      ⟨some 15, none, .call 12 [.t 14]⟩,
      ⟨some 2, none, .mv (.t 15)⟩,
      ⟨some 3, none, .mv (.c (.d (.lit (.int .i64 0))))⟩] false [] k6)
    (.ret))),
 [(2, none), (3, none)]⟩
theorem ok6 : FnOk Try.prog 6 v6 := ⟨Try.f6, _, k6, Try.func6, by kernel_rfl, rfl, by kernel_rfl, by kernel_rfl, by kernel_rfl, by kernel_rfl⟩
/-- tailwater/slide.Of -/
def k7 : List Nat := [0, 1, 2, 4, 5, 6, 7, 8, 12, 15, 16, 26, 30]
def v7 : VFn := ⟨40,
 .seq (.region [⟨some 2, none, .box 25 3 (.t 0)⟩,
    ⟨some 4, none, .mv (.c (.nilS))⟩,
    ⟨some 5, none, .mv (.c (.d (.lit (.int .i64 0))))⟩] false [] k7)
  (.seq (.seq (.region [⟨some 9, none, .load 3 true (.t 2)⟩,
      ⟨some 10, none, .call 13 [.t 9]⟩,
      ⟨some 6, none, .mv (.t 10)⟩] false [] k7)
    (.seq (.region [⟨some 11, none, .mv (.t 6)⟩,
       ⟨some 12, none, .bin .neq (.t 11) (.c (.d (.lit (.int .i64 0))))⟩] false [] k7)
     (.cond (.t 12)
      (.seq (.region [⟨some 13, none, .mv (.t 6)⟩,
         ⟨some 4, none, .mv (.c (.nilS))⟩,
         ⟨some 5, none, .mv (.t 13)⟩] false [] k7)
       (.ret))
      (.skip))))
   (.seq (.seq (.region [⟨some 14, none, .fa 0 (.t 2)⟩,
       ⟨some 15, none, .load 1 false (.t 14)⟩] false [] k7)
     (.block 0 (.seq (.region [⟨some 17, none, .bin .eql (.t 15) (.c (.d (.lit (.int .u8 1))))⟩,
         ⟨some 16, none, .mv (.t 17)⟩] false [] k7)
       (.cond (.t 16)
        (.seq (.region [⟨some 19, none, .mv (.t 1)⟩,
           ⟨some 20, none, .fa 1 (.t 2)⟩,
           ⟨some 21, none, .load 1 false (.t 20)⟩,
           ⟨some 22, none, .call 14 [.t 19, .t 21]⟩,
           ⟨some 18, none, .mv (.t 22)⟩,
           ⟨some 23, none, .ext (.t 18) 0⟩,
           ⟨some 24, none, .ext (.t 18) 1⟩,
           ⟨some 7, none, .alloc 43 [.d (.lit (.int .i64 0)), .d (.lit (.int .i64 0))]⟩,
           ⟨none, none, .store 2 (.t 7) (.t 23)⟩,
           ⟨some 8, none, .mv (.t 24)⟩] false [] k7)
         (.seq (.seq (.region [⟨some 25, none, .mv (.t 8)⟩,
             ⟨some 26, none, .bin .neq (.t 25) (.c (.d (.lit (.int .i64 0))))⟩] false [] k7)
           (.cond (.t 26)
            (.seq (.region [⟨some 27, none, .mv (.t 8)⟩,
               ⟨some 4, none, .mv (.c (.nilS))⟩,
               ⟨some 5, none, .mv (.t 27)⟩] false [] k7)
             (.ret))
            (.skip)))
          (.seq (.region [⟨some 28, none, .load 2 true (.t 7)⟩,
             ⟨some 29, none, .bslice 43 2 [.d (.lit (.int .i64 0)), .d (.lit (.int .i64 0))] 1 [(0, .t 28)]⟩,
             ⟨some 4, none, .mv (.t 29)⟩,
             ⟨some 5, none, .mv (.c (.d (.lit (.int .i64 0))))⟩] false [] k7)
           (.ret))))
        (.seq (.region [⟨some 31, none, .bin .eql (.t 15) (.c (.d (.lit (.int .u8 2))))⟩,
           ⟨some 30, none, .mv (.t 31)⟩] false [] k7)
         (.cond (.t 30)
          (.seq (.region [⟨some 32, none, .mv (.t 1)⟩,
             ⟨some 33, none, .fa 1 (.t 2)⟩,
             ⟨some 34, none, .load 1 false (.t 33)⟩,
             ⟨some 35, none, .fa 2 (.t 2)⟩,
             ⟨some 36, none, .load 1 false (.t 35)⟩,
             ⟨some 37, none, .call 15 [.t 32, .t 34, .t 36]⟩,
             ⟨some 38, none, .ext (.t 37) 0⟩,
             ⟨some 39, none, .ext (.t 37) 1⟩,
             ⟨some 4, none, .mv (.t 38)⟩,
             ⟨some 5, none, .mv (.t 39)⟩] false [] k7)
           (.ret))
          (.skip)))))))
    (.seq (.region [⟨some 4, none, .mv (.c (.nilS))⟩,
       ⟨some 5, none, .mv (.c (.d (.lit (.int .i64 2))))⟩] false [] k7)
     (.ret)))),
 [(4, none), (5, none)]⟩
theorem ok7 : FnOk Try.prog 7 v7 := ⟨Try.f7, _, k7, Try.func7, by kernel_rfl, rfl, by kernel_rfl, by kernel_rfl, by kernel_rfl, by kernel_rfl⟩
/-- tailwater/tailwaterref04.Great -/
def k8 : List Nat := [0, 2]
def v8 : VFn := ⟨6,
 .seq (.region [⟨some 2, none, .mv (.c (.d (.lit (.bool false))))⟩] false [] [0, 2])
  (.seq (.region [⟨some 3, none, .mv (.t 0)⟩,
     ⟨some 4, none, .len (.t 3)⟩,
     ⟨some 5, none, .bin .gtr (.t 4) (.c (.d (.lit (.int .i64 70))))⟩,
     ⟨some 2, none, .mv (.t 5)⟩] false [] [0, 2])
   (.ret)),
 [(2, none)]⟩
theorem ok8 : FnOk Try.prog 8 v8 := ⟨Try.f8, _, k8, Try.func8, by kernel_rfl, rfl, by kernel_rfl, by kernel_rfl, by kernel_rfl, by kernel_rfl⟩
/-- tailwater/checks.Check -/
def k9 : List Nat := [0, 1, 2, 3, 4, 8]
def v9 : VFn := ⟨20,
 .seq (.region [⟨some 1, none, .box 27 10 (.t 0)⟩,
    ⟨some 2, none, .mv (.c (.d (.lit (.int .i64 0))))⟩,
    ⟨some 3, none, .mv (.c (.d (.lit (.int .i64 0))))⟩] false [] k9)
  (.seq (.seq (.region [⟨some 5, none, .load 10 true (.t 1)⟩,
      ⟨some 6, none, .call 16 [.t 5]⟩,
      ⟨some 4, none, .mv (.t 6)⟩] false [] k9)
    (.seq (.region [⟨some 7, none, .mv (.t 4)⟩,
       ⟨some 8, none, .bin .neq (.t 7) (.c (.d (.lit (.int .i64 0))))⟩] false [] k9)
     (.cond (.t 8)
      (.seq (.region [⟨some 9, none, .mv (.t 4)⟩,
         ⟨some 2, none, .mv (.c (.d (.lit (.int .i64 0))))⟩,
         ⟨some 3, none, .mv (.t 9)⟩] false [] k9)
       (.ret))
      (.skip))))
   (.seq (.region [⟨some 10, none, .fa 1 (.t 1)⟩,
      ⟨some 11, none, .load 1 false (.t 10)⟩,
      ⟨some 12, none, .build [.nilS, .d (.lit (.nilFunc))] [(0, 1, .t 11), (1, 1, .c (.clo 18 []))]⟩,
      ⟨some 13, none, .fa 4 (.t 1)⟩,
      ⟨some 14, none, .load 1 false (.t 13)⟩,
      ⟨some 15, none, .build [.nilS, .d (.lit (.nilFunc))] [(0, 1, .t 14), (1, 1, .c (.clo 19 []))]⟩,
      ⟨some 16, none, .bslice 51 2 [.nilS, .d (.lit (.nilFunc))] 2 [(0, .t 12), (1, .t 15)]⟩,
      ⟨some 17, none, .call 17 [.t 16]⟩,
      ⟨some 18, none, .ext (.t 17) 0⟩,
      ⟨some 19, none, .ext (.t 17) 1⟩,
      ⟨some 2, none, .mv (.t 18)⟩,
      ⟨some 3, none, .mv (.t 19)⟩] false [] k9)
    (.ret))),
 [(2, none), (3, none)]⟩
theorem ok9 : FnOk Try.prog 9 v9 := ⟨Try.f9, _, k9, Try.func9, by kernel_rfl, rfl, by kernel_rfl, by kernel_rfl, by kernel_rfl, by kernel_rfl⟩
/-- tailwater/bound.windows -/
def k10 : List Nat := [0, 1, 2, 3, 6, 17]
def v10 : VFn := ⟨21,
 .seq (.region [⟨some 1, none, .box 25 3 (.t 0)⟩,
    ⟨some 2, none, .mv (.c (.d (.lit (.int .i64 0))))⟩] false [] k10)
  (.seq (.seq (.region [⟨some 4, none, .fa 0 (.t 1)⟩,
      ⟨some 5, none, .load 1 false (.t 4)⟩,
      ⟨some 6, none, .bin .neq (.t 5) (.c (.d (.lit (.int .u8 2))))⟩] false [] k10)
    (.cond (.t 6)
     (.seq (.region [⟨some 2, none, .mv (.c (.d (.lit (.int .i64 1))))⟩] false [] k10)
      (.ret))
     (.skip)))
   (.seq (.region [⟨some 7, none, .fa 1 (.t 1)⟩,
      ⟨some 8, none, .load 1 false (.t 7)⟩,
      ⟨some 9, none, .fa 2 (.t 1)⟩,
      ⟨some 10, none, .load 1 false (.t 9)⟩,
      ⟨some 11, none, .bin .quo (.t 8) (.t 10)⟩,
      ⟨some 3, none, .mv (.t 11)⟩] false [] k10)
    (.seq (.seq (.region [⟨some 12, none, .fa 1 (.t 1)⟩,
        ⟨some 13, none, .load 1 false (.t 12)⟩,
        ⟨some 14, none, .fa 2 (.t 1)⟩,
        ⟨some 15, none, .load 1 false (.t 14)⟩,
        ⟨some 16, none, .bin .rem (.t 13) (.t 15)⟩,
        ⟨some 17, none, .bin .gtr (.t 16) (.c (.d (.lit (.int .i64 0))))⟩] false [] k10)
      (.cond (.t 17)
       (.region [⟨some 18, none, .mv (.t 3)⟩,
         ⟨some 19, none, .bin .add (.t 18) (.c (.d (.lit (.int .i64 1))))⟩,
         ⟨some 3, none, .mv (.t 19)⟩] false [] k10)
       (.skip)))
     (.seq (.region [⟨some 20, none, .mv (.t 3)⟩,
        ⟨some 2, none, .mv (.t 20)⟩] false [] k10)
      (.ret))))),
 [(2, none)]⟩
theorem ok10 : FnOk Try.prog 10 v10 := ⟨Try.f10, _, k10, Try.func10, by kernel_rfl, rfl, by kernel_rfl, by kernel_rfl, by kernel_rfl, by kernel_rfl⟩
/-- tailwater/tailwaterref10.Check -/
def k11 : List Nat := [0, 1, 2, 3, 6]
def v11 : VFn := ⟨13,
 .seq (.region [⟨some 1, none, .box 27 10 (.t 0)⟩,
    ⟨some 2, none, .mv (.c (.d (.lit (.int .i64 0))))⟩,
    ⟨some 3, none, .mv (.c (.d (.lit (.int .i64 0))))⟩] false [] k11)
  (.seq (.seq (.region [⟨some 4, none, .load 10 true (.t 1)⟩,
      ⟨some 5, none, .call 20 [.t 4]⟩,
      ⟨some 6, none, .bin .neq (.t 5) (.c (.d (.lit (.int .i64 0))))⟩] false [] k11)
    (.cond (.t 6)
     (.seq (.region [⟨some 7, none, .load 10 true (.t 1)⟩,
        ⟨some 8, none, .call 20 [.t 7]⟩,
        ⟨some 2, none, .mv (.c (.d (.lit (.int .i64 0))))⟩,
        ⟨some 3, none, .mv (.t 8)⟩] false [] k11)
      (.ret))
     (.skip)))
   (.seq (.region [⟨some 9, none, .load 10 true (.t 1)⟩,
      ⟨some 10, none, .call 21 [.t 9]⟩,
      ⟨some 11, none, .ext (.t 10) 0⟩,
      ⟨some 12, none, .ext (.t 10) 1⟩,
      ⟨some 2, none, .mv (.t 11)⟩,
      ⟨some 3, none, .mv (.t 12)⟩] false [] k11)
    (.ret))),
 [(2, none), (3, none)]⟩
theorem ok11 : FnOk Try.prog 11 v11 := ⟨Try.f11, _, k11, Try.func11, by kernel_rfl, rfl, by kernel_rfl, by kernel_rfl, by kernel_rfl, by kernel_rfl⟩
/-- tailwater/tailwaterref39.Windows -/
def k12 : List Nat := [0, 1, 2, 6]
def v12 : VFn := ⟨19,
 .seq (.region [⟨some 1, none, .box 27 10 (.t 0)⟩,
    ⟨some 2, none, .mv (.c (.d (.lit (.int .i64 0))))⟩] false [] k12)
  (.seq (.seq (.region [⟨some 3, none, .fa 5 (.t 1)⟩,
      ⟨some 4, none, .fa 0 (.t 3)⟩,
      ⟨some 5, none, .load 1 false (.t 4)⟩,
      ⟨some 6, none, .bin .neq (.t 5) (.c (.d (.lit (.int .u8 2))))⟩] false [] k12)
    (.cond (.t 6)
     (.seq (.region [⟨some 2, none, .mv (.c (.d (.lit (.int .i64 1))))⟩] false [] k12)
      (.ret))
     (.skip)))
   (.seq (.region [⟨some 7, none, .fa 5 (.t 1)⟩,
      ⟨some 8, none, .fa 1 (.t 7)⟩,
      ⟨some 9, none, .load 1 false (.t 8)⟩,
      ⟨some 10, none, .fa 5 (.t 1)⟩,
      ⟨some 11, none, .fa 2 (.t 10)⟩,
      ⟨some 12, none, .load 1 false (.t 11)⟩,
      ⟨some 13, none, .bin .add (.t 9) (.t 12)⟩,
      ⟨some 14, none, .bin .sub (.t 13) (.c (.d (.lit (.int .i64 1))))⟩,
      ⟨some 15, none, .fa 5 (.t 1)⟩,
      ⟨some 16, none, .fa 2 (.t 15)⟩,
      ⟨some 17, none, .load 1 false (.t 16)⟩,
      ⟨some 18, none, .bin .quo (.t 14) (.t 17)⟩,
      ⟨some 2, none, .mv (.t 18)⟩] false [] k12)
    (.ret))),
 [(2, none)]⟩
theorem ok12 : FnOk Try.prog 12 v12 := ⟨Try.f12, _, k12, Try.func12, by kernel_rfl, rfl, by kernel_rfl, by kernel_rfl, by kernel_rfl, by kernel_rfl⟩
/-- tailwater/clauses.Window -/
def k13 : List Nat := [0, 1, 2, 10, 12, 13, 15, 17, 36, 39]
def v13 : VFn := ⟨40,
 .seq (.region [⟨some 1, none, .box 25 3 (.t 0)⟩,
    ⟨some 2, none, .mv (.c (.d (.lit (.int .i64 0))))⟩] false [] k13)
  (.seq (.seq (.region [⟨some 3, none, .fa 1 (.t 1)⟩,
      ⟨some 4, none, .load 1 false (.t 3)⟩,
      ⟨some 5, none, .bin .lss (.t 4) (.c (.d (.lit (.int .i64 1))))⟩,
      ⟨some 6, none, .mv (.t 5)⟩,
      ⟨some 7, some (3, false), .fa 1 (.t 1)⟩,
      ⟨some 8, some (3, false), .load 1 false (.t 7)⟩,
      ⟨some 9, some (3, false), .bin .gtr (.t 8) (.c (.d (.lit (.int .i64 1073741824))))⟩,
      ⟨some 10, none, .pick (.t 6) (.c (.d (.lit (.bool true)))) (.t 9)⟩] false [] k13)
    (.cond (.t 10)
     (.seq (.region [⟨some 2, none, .mv (.c (.d (.lit (.int .i64 8))))⟩] false [] k13)
      (.ret))
     (.skip)))
   (.seq (.seq (.region [⟨some 11, none, .fa 0 (.t 1)⟩,
       ⟨some 12, none, .load 1 false (.t 11)⟩] false [] k13)
     (.block 0 (.seq (.block 3 (.block 2 (.seq (.block 1 (.seq (.seq (.seq (.region [⟨some 14, none, .bin .eql (.t 12) (.c (.d (.lit (.int .u8 2))))⟩,
                ⟨some 13, none, .mv (.t 14)⟩] false [] k13)
              (.cond (.t 13)
               (.exit 1)
               (.skip)))
             (.seq (.seq (.region [⟨some 16, none, .bin .eql (.t 12) (.c (.d (.lit (.int .u8 1))))⟩,
                 ⟨some 15, none, .mv (.t 16)⟩] false [] k13)
               (.cond (.t 15)
                (.exit 2)
                (.skip)))
              (.seq (.region [⟨some 18, none, .bin .eql (.t 12) (.c (.d (.lit (.int .u8 3))))⟩,
                 ⟨some 17, none, .mv (.t 18)⟩] false [] k13)
               (.cond (.t 17)
                (.exit 3)
                (.skip)))))
            (.exit 0)))
          (.seq (.seq (.region [⟨some 19, none, .fa 2 (.t 1)⟩,
              ⟨some 20, none, .load 1 false (.t 19)⟩,
              ⟨some 21, none, .bin .geq (.t 20) (.c (.d (.lit (.int .i64 1))))⟩,
              ⟨some 22, none, .mv (.t 21)⟩,
              ⟨some 23, some (3, true), .fa 2 (.t 1)⟩,
              ⟨some 24, some (3, true), .load 1 false (.t 23)⟩,
              ⟨some 25, some (3, true), .fa 1 (.t 1)⟩,
              ⟨some 26, some (3, true), .load 1 false (.t 25)⟩,
              ⟨some 27, some (3, true), .bin .leq (.t 24) (.t 26)⟩,
              ⟨some 28, none, .pick (.t 22) (.t 27) (.c (.d (.lit (.bool false))))⟩,
              ⟨some 29, none, .mv (.t 28)⟩,
              ⟨some 30, some (10, true), .fa 1 (.t 1)⟩,
              ⟨some 31, some (10, true), .load 1 false (.t 30)⟩,
              ⟨some 32, some (10, true), .fa 2 (.t 1)⟩,
              ⟨some 33, some (10, true), .load 1 false (.t 32)⟩,
              ⟨some 34, some (10, true), .bin .mul (.c (.d (.lit (.int .i64 16)))) (.t 33)⟩,
              ⟨some 35, some (10, true), .bin .leq (.t 31) (.t 34)⟩,
              ⟨some 36, none, .pick (.t 29) (.t 35) (.c (.d (.lit (.bool false))))⟩] false [] k13)
            (.cond (.t 36)
             (.seq (.region [⟨some 2, none, .mv (.c (.d (.lit (.int .i64 0))))⟩] false [] k13)
              (.ret))
             (.skip)))
           (.exit 0)))))
       (.seq (.seq (.region [⟨some 37, none, .fa 2 (.t 1)⟩,
           ⟨some 38, none, .load 1 false (.t 37)⟩,
           ⟨some 39, none, .bin .eql (.t 38) (.c (.d (.lit (.int .i64 0))))⟩] false [] k13)
         (.cond (.t 39)
          (.seq (.region [⟨some 2, none, .mv (.c (.d (.lit (.int .i64 0))))⟩] false [] k13)
           (.ret))
          (.skip)))
        (.exit 0)))))
    (.seq (.region [⟨some 2, none, .mv (.c (.d (.lit (.int .i64 8))))⟩] false [] k13)
     (.ret)))),
 [(2, none)]⟩
theorem ok13 : FnOk Try.prog 13 v13 := ⟨Try.f13, _, k13, Try.func13, by kernel_rfl, rfl, by kernel_rfl, by kernel_rfl, by kernel_rfl, by kernel_rfl⟩
/-- tailwater/tumble.Of -/
def k14 : List Nat := [0, 1, 4, 5, 6, 7, 15]
def v14 : VFn := ⟨26,
 .seq (.region [⟨some 4, none, .alloc 43 [.d (.lit (.int .i64 0)), .d (.lit (.int .i64 0))]⟩,
    ⟨some 5, none, .mv (.c (.d (.lit (.int .i64 0))))⟩] false [] k14)
  (.seq (.region [⟨some 9, none, .mv (.t 0)⟩,
     ⟨some 10, none, .mv (.t 1)⟩,
     ⟨some 11, none, .call 22 [.t 9, .t 10]⟩,
     ⟨some 8, none, .mv (.t 11)⟩,
     ⟨some 12, none, .ext (.t 8) 0⟩,
     ⟨some 13, none, .ext (.t 8) 1⟩,
     ⟨some 6, none, .mv (.t 12)⟩,
     ⟨some 7, none, .mv (.t 13)⟩] false [] k14)
   (.seq (.seq (.region [⟨some 14, none, .mv (.t 7)⟩,
       ⟨some 15, none, .bin .neq (.t 14) (.c (.d (.lit (.int .i64 0))))⟩] false [] k14)
     (.cond (.t 15)
      (.seq (.region [⟨some 16, none, .build [.d (.lit (.int .i64 0)), .d (.lit (.int .i64 0))] []⟩,
         ⟨some 17, none, .mv (.t 7)⟩,
         ⟨none, none, .store 2 (.t 4) (.t 16)⟩,
         ⟨some 5, none, .mv (.t 17)⟩] false [] k14)
       (.ret))
      (.skip)))
    (.seq (.region [⟨some 18, none, .mv (.t 6)⟩,
       ⟨some 19, none, .mv (.t 1)⟩,
       ⟨some 20, none, .bin .mul (.t 18) (.t 19)⟩,
       ⟨some 21, none, .mv (.t 6)⟩,
       ⟨some 22, none, .bin .add (.t 21) (.c (.d (.lit (.int .i64 1))))⟩,
       ⟨some 23, none, .mv (.t 1)⟩,
       ⟨some 24, none, .bin .mul (.t 22) (.t 23)⟩,
       ⟨some 25, none, .build [.d (.lit (.int .i64 0)), .d (.lit (.int .i64 0))] [(0, 1, .t 20), (1, 1, .t 24)]⟩,
       ⟨none, none, .store 2 (.t 4) (.t 25)⟩,
       ⟨some 5, none, .mv (.c (.d (.lit (.int .i64 0))))⟩] false [] k14)
     (.ret)))),
 [(4, some (2, true)), (5, none)]⟩
theorem ok14 : FnOk Try.prog 14 v14 := ⟨Try.f14, _, k14, Try.func14, by kernel_rfl, rfl, by kernel_rfl, by kernel_rfl, by kernel_rfl, by kernel_rfl⟩
/-- tailwater/clauses.Check -/
def k16 : List Nat := [0, 1, 2, 3, 4, 5, 23, 26, 31, 36, 40, 45, 53, 62]
def v16 : VFn := ⟨66,
 .seq (.region [⟨some 1, none, .box 27 10 (.t 0)⟩,
    ⟨some 2, none, .mv (.c (.d (.lit (.int .i64 0))))⟩] false [] k16)
  (.seq (.seq (.region [⟨some 6, none, .fa 0 (.t 1)⟩,
      ⟨some 7, none, .load 1 false (.t 6)⟩,
      ⟨some 8, none, .bin .lss (.t 7) (.c (.d (.lit (.int .u8 1))))⟩,
      ⟨some 9, none, .mv (.t 8)⟩,
      ⟨some 10, some (3, false), .fa 0 (.t 1)⟩,
      ⟨some 11, some (3, false), .load 1 false (.t 10)⟩,
      ⟨some 12, some (3, false), .bin .gtr (.t 11) (.c (.d (.lit (.int .u8 4))))⟩,
      ⟨some 13, none, .pick (.t 9) (.c (.d (.lit (.bool true)))) (.t 12)⟩,
      ⟨some 14, none, .mv (.t 13)⟩,
      ⟨some 15, some (8, false), .fa 9 (.t 1)⟩,
      ⟨some 16, some (8, false), .load 1 false (.t 15)⟩,
      ⟨some 17, some (8, false), .bin .neq (.t 16) (.c (.d (.lit (.int .u8 1))))⟩,
      ⟨some 18, some (8, false), .mv (.t 17)⟩,
      ⟨some 19, some (12, true), .fa 9 (.t 1)⟩,
      ⟨some 20, some (12, true), .load 1 false (.t 19)⟩,
      ⟨some 21, some (12, true), .bin .neq (.t 20) (.c (.d (.lit (.int .u8 2))))⟩,
      ⟨some 22, some (8, false), .pick (.t 18) (.t 21) (.c (.d (.lit (.bool false))))⟩,
      ⟨some 23, none, .pick (.t 14) (.c (.d (.lit (.bool true)))) (.t 22)⟩] false [] k16)
    (.cond (.t 23)
     (.seq (.region [⟨some 2, none, .mv (.c (.d (.lit (.int .i64 8))))⟩] false [] k16)
      (.ret))
     (.skip)))
   (.seq (.seq (.region [⟨some 24, none, .fa 0 (.t 1)⟩,
       ⟨some 25, none, .load 1 false (.t 24)⟩,
       ⟨some 26, none, .bin .neq (.t 25) (.c (.d (.lit (.int .u8 1))))⟩] false [] k16)
     (.cond (.t 26)
      (.seq (.region [⟨some 27, none, .fa 1 (.t 1)⟩,
         ⟨some 28, none, .load 1 false (.t 27)⟩,
         ⟨some 29, none, .call 24 [.t 28]⟩,
         ⟨some 3, none, .mv (.t 29)⟩] false [] k16)
       (.seq (.region [⟨some 30, none, .mv (.t 3)⟩,
          ⟨some 31, none, .bin .neq (.t 30) (.c (.d (.lit (.int .i64 0))))⟩] false [] k16)
        (.cond (.t 31)
         (.seq (.region [⟨some 32, none, .mv (.t 3)⟩,
            ⟨some 2, none, .mv (.t 32)⟩] false [] k16)
          (.ret))
         (.skip))))
      (.seq (.region [⟨some 33, none, .fa 1 (.t 1)⟩,
         ⟨some 34, none, .load 1 false (.t 33)⟩,
         ⟨some 35, none, .len (.t 34)⟩,
         ⟨some 36, none, .bin .gtr (.t 35) (.c (.d (.lit (.int .i64 0))))⟩] false [] k16)
       (.cond (.t 36)
        (.seq (.region [⟨some 2, none, .mv (.c (.d (.lit (.int .i64 8))))⟩] false [] k16)
         (.ret))
        (.skip)))))
    (.seq (.seq (.region [⟨some 37, none, .fa 4 (.t 1)⟩,
        ⟨some 38, none, .load 1 false (.t 37)⟩,
        ⟨some 39, none, .len (.t 38)⟩,
        ⟨some 40, none, .bin .gtr (.t 39) (.c (.d (.lit (.int .i64 0))))⟩] false [] k16)
      (.cond (.t 40)
       (.seq (.region [⟨some 41, none, .fa 4 (.t 1)⟩,
          ⟨some 42, none, .load 1 false (.t 41)⟩,
          ⟨some 43, none, .call 24 [.t 42]⟩,
          ⟨some 4, none, .mv (.t 43)⟩] false [] k16)
        (.seq (.region [⟨some 44, none, .mv (.t 4)⟩,
           ⟨some 45, none, .bin .neq (.t 44) (.c (.d (.lit (.int .i64 0))))⟩] false [] k16)
         (.cond (.t 45)
          (.seq (.region [⟨some 46, none, .mv (.t 4)⟩,
             ⟨some 2, none, .mv (.t 46)⟩] false [] k16)
           (.ret))
          (.skip))))
       (.skip)))
     (.seq (.seq (.region [⟨some 47, none, .fa 2 (.t 1)⟩,
         ⟨some 48, none, .load 1 false (.t 47)⟩,
         ⟨some 49, none, .fa 3 (.t 1)⟩,
         ⟨some 50, none, .load 1 false (.t 49)⟩,
         ⟨some 51, none, .call 25 [.t 48, .t 50]⟩,
         ⟨some 5, none, .mv (.t 51)⟩] false [] k16)
       (.seq (.region [⟨some 52, none, .mv (.t 5)⟩,
          ⟨some 53, none, .bin .neq (.t 52) (.c (.d (.lit (.int .i64 0))))⟩] false [] k16)
        (.cond (.t 53)
         (.seq (.region [⟨some 54, none, .mv (.t 5)⟩,
            ⟨some 2, none, .mv (.t 54)⟩] false [] k16)
          (.ret))
         (.skip))))
      (.seq (.seq (.region [⟨some 55, none, .fa 3 (.t 1)⟩,
          ⟨some 56, none, .load 1 false (.t 55)⟩,
          ⟨some 57, none, .mv (.t 56)⟩,
          ⟨some 58, some (2, true), .fa 5 (.t 1)⟩,
          ⟨some 59, some (2, true), .fa 0 (.t 58)⟩,
          ⟨some 60, some (2, true), .load 1 false (.t 59)⟩,
          ⟨some 61, some (2, true), .bin .neq (.t 60) (.c (.d (.lit (.int .u8 1))))⟩,
          ⟨some 62, none, .pick (.t 57) (.t 61) (.c (.d (.lit (.bool false))))⟩] false [] k16)
        (.cond (.t 62)
         (.seq (.region [⟨some 2, none, .mv (.c (.d (.lit (.int .i64 8))))⟩] false [] k16)
          (.ret))
         (.skip)))
       (.seq (.region [⟨some 63, none, .fa 5 (.t 1)⟩,
          ⟨some 64, none, .load 3 true (.t 63)⟩,
          ⟨some 65, none, .call 13 [.t 64]⟩,
          ⟨some 2, none, .mv (.t 65)⟩] false [] k16)
        (.ret))))))),
 [(2, none)]⟩
theorem ok16 : FnOk Try.prog 16 v16 := ⟨Try.f16, _, k16, Try.func16, by kernel_rfl, rfl, by kernel_rfl, by kernel_rfl, by kernel_rfl, by kernel_rfl⟩
/-- tailwater/checks.first -/
def k17 : List Nat := [0, 2, 3, 5, 6, 7, 8, 9, 10, 11, 17, 27]
def v17L0 : VCode :=
 .seq (.region [⟨some 11, none, .bin .lss (.t 10) (.t 9)⟩] false [] k17)
  (.seq (.cond (.t 11)
    (.skip)
    (.exit 0))
   (.seq (.block 1 (.seq (.region [⟨some 12, none, .ia 2 (.t 8) (.t 10)⟩,
        ⟨some 13, none, .load 2 true (.t 12)⟩,
        ⟨some 5, none, .alloc 51 [.nilS, .d (.lit (.nilFunc))]⟩,
        ⟨none, none, .store 2 (.t 5) (.t 13)⟩] false [] k17)
      (.seq (.seq (.region [⟨some 14, none, .fa 0 (.t 5)⟩,
          ⟨some 15, none, .load 1 false (.t 14)⟩,
          ⟨some 16, none, .len (.t 15)⟩,
          ⟨some 17, none, .bin .eql (.t 16) (.c (.d (.lit (.int .i64 0))))⟩] false [] k17)
        (.cond (.t 17)
         (.exit 1)
         (.skip)))
       (.seq (.region [⟨some 19, none, .fa 1 (.t 5)⟩,
          ⟨some 20, none, .load 1 false (.t 19)⟩,
          ⟨some 21, none, .fa 0 (.t 5)⟩,
          ⟨some 22, none, .load 1 false (.t 21)⟩,
          ⟨some 23, none, .callv (.t 20) [.t 22]⟩,
          ⟨some 18, none, .mv (.t 23)⟩,
          ⟨some 24, none, .ext (.t 18) 0⟩,
          ⟨some 25, none, .ext (.t 18) 1⟩,
          ⟨some 6, none, .mv (.t 24)⟩,
          ⟨some 7, none, .mv (.t 25)⟩] false [] k17)
        (.seq (.region [⟨some 26, none, .mv (.t 7)⟩,
           ⟨some 27, none, .bin .neq (.t 26) (.c (.d (.lit (.int .i64 0))))⟩] false [] k17)
         (.cond (.t 27)
          (.seq (.region [⟨some 28, none, .fa 0 (.t 5)⟩,
             ⟨some 29, none, .load 1 false (.t 28)⟩,
             ⟨some 30, none, .mv (.t 6)⟩,
             ⟨some 31, none, .ia 5 (.t 29) (.t 30)⟩,
             ⟨some 32, none, .fa 4 (.t 31)⟩,
             ⟨some 33, none, .load 1 false (.t 32)⟩,
             ⟨some 34, none, .mv (.t 7)⟩,
             ⟨some 2, none, .mv (.t 33)⟩,
             ⟨some 3, none, .mv (.t 34)⟩] false [] k17)
           (.ret))
          (.skip)))))))
    (.region [⟨some 35, none, .bin .add (.t 10) (.c (.d (.lit (.int .i64 1))))⟩,
      ⟨some 10, none, .mv (.t 35)⟩] false [] k17)))
def v17 : VFn := ⟨36,
 .seq (.region [⟨some 2, none, .mv (.c (.d (.lit (.int .i64 0))))⟩,
    ⟨some 3, none, .mv (.c (.d (.lit (.int .i64 0))))⟩] false [] k17)
  (.seq (.seq (.region [⟨some 8, none, .mv (.t 0)⟩,
      ⟨some 9, none, .len (.t 8)⟩,
      ⟨some 10, none, .mv (.c (.d (.lit (.int .i64 0))))⟩] false [] k17)
    (.block 0 (.loop v17L0)))
   (.seq (.region [⟨some 2, none, .mv (.c (.d (.lit (.int .i64 0))))⟩,
      ⟨some 3, none, .mv (.c (.d (.lit (.int .i64 0))))⟩] false [] k17)
    (.ret))),
 [(2, none), (3, none)]⟩
theorem ok17 : FnOk Try.prog 17 v17 := ⟨Try.f17, _, k17, Try.func17, by kernel_rfl, rfl, by kernel_rfl, by kernel_rfl, by kernel_rfl, by kernel_rfl⟩
/-- tailwater/kinds.Number -/
def k18 : List Nat := [0, 2, 3]
def v18 : VFn := ⟨8,
 .seq (.region [⟨some 2, none, .mv (.c (.d (.lit (.int .i64 0))))⟩,
    ⟨some 3, none, .mv (.c (.d (.lit (.int .i64 0))))⟩] false [] k18)
  (.seq (.region [⟨some 4, none, .mv (.t 0)⟩,
     ⟨some 5, none, .call 26 [.t 4, .c (.d (.lit (.bool false)))]⟩,
     ⟨some 6, none, .ext (.t 5) 0⟩,
     ⟨some 7, none, .ext (.t 5) 1⟩,
     ⟨some 2, none, .mv (.t 6)⟩,
     ⟨some 3, none, .mv (.t 7)⟩] false [] k18)
   (.ret)),
 [(2, none), (3, none)]⟩
theorem ok18 : FnOk Try.prog 18 v18 := ⟨Try.f18, _, k18, Try.func18, by kernel_rfl, rfl, by kernel_rfl, by kernel_rfl, by kernel_rfl, by kernel_rfl⟩
/-- tailwater/kinds.Truth -/
def k19 : List Nat := [0, 2, 3]
def v19 : VFn := ⟨8,
 .seq (.region [⟨some 2, none, .mv (.c (.d (.lit (.int .i64 0))))⟩,
    ⟨some 3, none, .mv (.c (.d (.lit (.int .i64 0))))⟩] false [] k19)
  (.seq (.region [⟨some 4, none, .mv (.t 0)⟩,
     ⟨some 5, none, .call 26 [.t 4, .c (.d (.lit (.bool true)))]⟩,
     ⟨some 6, none, .ext (.t 5) 0⟩,
     ⟨some 7, none, .ext (.t 5) 1⟩,
     ⟨some 2, none, .mv (.t 6)⟩,
     ⟨some 3, none, .mv (.t 7)⟩] false [] k19)
   (.ret)),
 [(2, none), (3, none)]⟩
theorem ok19 : FnOk Try.prog 19 v19 := ⟨Try.f19, _, k19, Try.func19, by kernel_rfl, rfl, by kernel_rfl, by kernel_rfl, by kernel_rfl, by kernel_rfl⟩
/-- tailwater/tailwaterref08.Check -/
def k20 : List Nat := [0, 1, 2, 20, 29, 38, 51, 60, 79]
def v20 : VFn := ⟨80,
 .seq (.region [⟨some 1, none, .box 27 10 (.t 0)⟩,
    ⟨some 2, none, .mv (.c (.d (.lit (.int .i64 0))))⟩] false [] k20)
  (.seq (.seq (.region [⟨some 3, none, .fa 0 (.t 1)⟩,
      ⟨some 4, none, .load 1 false (.t 3)⟩,
      ⟨some 5, none, .bin .lss (.t 4) (.c (.d (.lit (.int .u8 1))))⟩,
      ⟨some 6, none, .mv (.t 5)⟩,
      ⟨some 7, some (3, false), .fa 0 (.t 1)⟩,
      ⟨some 8, some (3, false), .load 1 false (.t 7)⟩,
      ⟨some 9, some (3, false), .bin .gtr (.t 8) (.c (.d (.lit (.int .u8 4))))⟩,
      ⟨some 10, none, .pick (.t 6) (.c (.d (.lit (.bool true)))) (.t 9)⟩,
      ⟨some 11, none, .mv (.t 10)⟩,
      ⟨some 12, some (8, false), .fa 9 (.t 1)⟩,
      ⟨some 13, some (8, false), .load 1 false (.t 12)⟩,
      ⟨some 14, some (8, false), .bin .lss (.t 13) (.c (.d (.lit (.int .u8 1))))⟩,
      ⟨some 15, none, .pick (.t 11) (.c (.d (.lit (.bool true)))) (.t 14)⟩,
      ⟨some 16, none, .mv (.t 15)⟩,
      ⟨some 17, some (13, false), .fa 9 (.t 1)⟩,
      ⟨some 18, some (13, false), .load 1 false (.t 17)⟩,
      ⟨some 19, some (13, false), .bin .gtr (.t 18) (.c (.d (.lit (.int .u8 2))))⟩,
      ⟨some 20, none, .pick (.t 16) (.c (.d (.lit (.bool true)))) (.t 19)⟩] false [] k20)
    (.cond (.t 20)
     (.seq (.region [⟨some 2, none, .mv (.c (.d (.lit (.int .i64 8))))⟩] false [] k20)
      (.ret))
     (.skip)))
   (.seq (.seq (.region [⟨some 21, none, .fa 0 (.t 1)⟩,
       ⟨some 22, none, .load 1 false (.t 21)⟩,
       ⟨some 23, none, .bin .eql (.t 22) (.c (.d (.lit (.int .u8 1))))⟩,
       ⟨some 24, none, .mv (.t 23)⟩,
       ⟨some 25, some (3, true), .fa 1 (.t 1)⟩,
       ⟨some 26, some (3, true), .load 1 false (.t 25)⟩,
       ⟨some 27, some (3, true), .len (.t 26)⟩,
       ⟨some 28, some (3, true), .bin .gtr (.t 27) (.c (.d (.lit (.int .i64 0))))⟩,
       ⟨some 29, none, .pick (.t 24) (.t 28) (.c (.d (.lit (.bool false))))⟩] false [] k20)
     (.cond (.t 29)
      (.seq (.region [⟨some 2, none, .mv (.c (.d (.lit (.int .i64 8))))⟩] false [] k20)
       (.ret))
      (.skip)))
    (.seq (.seq (.region [⟨some 30, none, .fa 0 (.t 1)⟩,
        ⟨some 31, none, .load 1 false (.t 30)⟩,
        ⟨some 32, none, .bin .neq (.t 31) (.c (.d (.lit (.int .u8 1))))⟩,
        ⟨some 33, none, .mv (.t 32)⟩,
        ⟨some 34, some (3, true), .fa 1 (.t 1)⟩,
        ⟨some 35, some (3, true), .load 1 false (.t 34)⟩,
        ⟨some 36, some (3, true), .call 27 [.t 35]⟩,
        ⟨some 37, some (3, true), .bin .neq (.t 36) (.c (.d (.lit (.int .i64 0))))⟩,
        ⟨some 38, none, .pick (.t 33) (.t 37) (.c (.d (.lit (.bool false))))⟩] false [] k20)
      (.cond (.t 38)
       (.seq (.region [⟨some 39, none, .fa 1 (.t 1)⟩,
          ⟨some 40, none, .load 1 false (.t 39)⟩,
          ⟨some 41, none, .call 27 [.t 40]⟩,
          ⟨some 2, none, .mv (.t 41)⟩] false [] k20)
        (.ret))
       (.skip)))
     (.seq (.seq (.region [⟨some 42, none, .fa 4 (.t 1)⟩,
         ⟨some 43, none, .load 1 false (.t 42)⟩,
         ⟨some 44, none, .len (.t 43)⟩,
         ⟨some 45, none, .bin .gtr (.t 44) (.c (.d (.lit (.int .i64 0))))⟩,
         ⟨some 46, none, .mv (.t 45)⟩,
         ⟨some 47, some (4, true), .fa 4 (.t 1)⟩,
         ⟨some 48, some (4, true), .load 1 false (.t 47)⟩,
         ⟨some 49, some (4, true), .call 27 [.t 48]⟩,
         ⟨some 50, some (4, true), .bin .neq (.t 49) (.c (.d (.lit (.int .i64 0))))⟩,
         ⟨some 51, none, .pick (.t 46) (.t 50) (.c (.d (.lit (.bool false))))⟩] false [] k20)
       (.cond (.t 51)
        (.seq (.region [⟨some 52, none, .fa 4 (.t 1)⟩,
           ⟨some 53, none, .load 1 false (.t 52)⟩,
           ⟨some 54, none, .call 27 [.t 53]⟩,
           ⟨some 2, none, .mv (.t 54)⟩] false [] k20)
         (.ret))
        (.skip)))
      (.seq (.seq (.region [⟨some 55, none, .fa 2 (.t 1)⟩,
          ⟨some 56, none, .load 1 false (.t 55)⟩,
          ⟨some 57, none, .fa 3 (.t 1)⟩,
          ⟨some 58, none, .load 1 false (.t 57)⟩,
          ⟨some 59, none, .call 28 [.t 56, .t 58]⟩,
          ⟨some 60, none, .bin .neq (.t 59) (.c (.d (.lit (.int .i64 0))))⟩] false [] k20)
        (.cond (.t 60)
         (.seq (.region [⟨some 61, none, .fa 2 (.t 1)⟩,
            ⟨some 62, none, .load 1 false (.t 61)⟩,
            ⟨some 63, none, .fa 3 (.t 1)⟩,
            ⟨some 64, none, .load 1 false (.t 63)⟩,
            ⟨some 65, none, .call 28 [.t 62, .t 64]⟩,
            ⟨some 2, none, .mv (.t 65)⟩] false [] k20)
          (.ret))
         (.skip)))
       (.seq (.seq (.region [⟨some 66, none, .fa 5 (.t 1)⟩,
           ⟨some 67, none, .load 3 true (.t 66)⟩,
           ⟨some 68, none, .call 29 [.t 67]⟩,
           ⟨some 69, none, .un .not (.t 68)⟩,
           ⟨some 70, none, .mv (.t 69)⟩,
           ⟨some 71, some (4, false), .fa 3 (.t 1)⟩,
           ⟨some 72, some (4, false), .load 1 false (.t 71)⟩,
           ⟨some 73, some (4, false), .mv (.t 72)⟩,
           ⟨some 74, some (7, true), .fa 5 (.t 1)⟩,
           ⟨some 75, some (7, true), .fa 0 (.t 74)⟩,
           ⟨some 76, some (7, true), .load 1 false (.t 75)⟩,
           ⟨some 77, some (7, true), .bin .neq (.t 76) (.c (.d (.lit (.int .u8 1))))⟩,
           ⟨some 78, some (4, false), .pick (.t 73) (.t 77) (.c (.d (.lit (.bool false))))⟩,
           ⟨some 79, none, .pick (.t 70) (.c (.d (.lit (.bool true)))) (.t 78)⟩] false [] k20)
         (.cond (.t 79)
          (.seq (.region [⟨some 2, none, .mv (.c (.d (.lit (.int .i64 8))))⟩] false [] k20)
           (.ret))
          (.skip)))
        (.seq (.region [⟨some 2, none, .mv (.c (.d (.lit (.int .i64 0))))⟩] false [] k20)
         (.ret)))))))),
 [(2, none)]⟩
theorem ok20 : FnOk Try.prog 20 v20 := ⟨Try.f20, _, k20, Try.func20, by kernel_rfl, rfl, by kernel_rfl, by kernel_rfl, by kernel_rfl, by kernel_rfl⟩
/-- tailwater/tailwaterref10.Right -/
def k21 : List Nat := [0, 1, 2, 3, 4, 5, 6, 7, 11, 19, 30, 38]
def v21 : VFn := ⟨46,
 .seq (.region [⟨some 1, none, .box 27 10 (.t 0)⟩,
    ⟨some 2, none, .mv (.c (.d (.lit (.int .i64 0))))⟩,
    ⟨some 3, none, .mv (.c (.d (.lit (.int .i64 0))))⟩] false [] k21)
  (.seq (.seq (.region [⟨some 8, none, .fa 1 (.t 1)⟩,
      ⟨some 9, none, .load 1 false (.t 8)⟩,
      ⟨some 10, none, .len (.t 9)⟩,
      ⟨some 11, none, .bin .gtr (.t 10) (.c (.d (.lit (.int .i64 0))))⟩] false [] k21)
    (.cond (.t 11)
     (.seq (.region [⟨some 13, none, .fa 1 (.t 1)⟩,
        ⟨some 14, none, .load 1 false (.t 13)⟩,
        ⟨some 15, none, .call 30 [.t 14, .c (.d (.lit (.bool false)))]⟩,
        ⟨some 12, none, .mv (.t 15)⟩,
        ⟨some 16, none, .ext (.t 12) 0⟩,
        ⟨some 17, none, .ext (.t 12) 1⟩,
        ⟨some 4, none, .mv (.t 16)⟩,
        ⟨some 5, none, .mv (.t 17)⟩] false [] k21)
      (.seq (.region [⟨some 18, none, .mv (.t 5)⟩,
         ⟨some 19, none, .bin .neq (.t 18) (.c (.d (.lit (.int .i64 0))))⟩] false [] k21)
       (.cond (.t 19)
        (.seq (.region [⟨some 20, none, .fa 1 (.t 1)⟩,
           ⟨some 21, none, .load 1 false (.t 20)⟩,
           ⟨some 22, none, .mv (.t 4)⟩,
           ⟨some 23, none, .ia 5 (.t 21) (.t 22)⟩,
           ⟨some 24, none, .fa 4 (.t 23)⟩,
           ⟨some 25, none, .load 1 false (.t 24)⟩,
           ⟨some 26, none, .mv (.t 5)⟩,
           ⟨some 2, none, .mv (.t 25)⟩,
           ⟨some 3, none, .mv (.t 26)⟩] false [] k21)
         (.ret))
        (.skip))))
     (.skip)))
   (.seq (.seq (.region [⟨some 27, none, .fa 4 (.t 1)⟩,
       ⟨some 28, none, .load 1 false (.t 27)⟩,
       ⟨some 29, none, .len (.t 28)⟩,
       ⟨some 30, none, .bin .gtr (.t 29) (.c (.d (.lit (.int .i64 0))))⟩] false [] k21)
     (.cond (.t 30)
      (.seq (.region [⟨some 32, none, .fa 4 (.t 1)⟩,
         ⟨some 33, none, .load 1 false (.t 32)⟩,
         ⟨some 34, none, .call 30 [.t 33, .c (.d (.lit (.bool true)))]⟩,
         ⟨some 31, none, .mv (.t 34)⟩,
         ⟨some 35, none, .ext (.t 31) 0⟩,
         ⟨some 36, none, .ext (.t 31) 1⟩,
         ⟨some 6, none, .mv (.t 35)⟩,
         ⟨some 7, none, .mv (.t 36)⟩] false [] k21)
       (.seq (.region [⟨some 37, none, .mv (.t 7)⟩,
          ⟨some 38, none, .bin .neq (.t 37) (.c (.d (.lit (.int .i64 0))))⟩] false [] k21)
        (.cond (.t 38)
         (.seq (.region [⟨some 39, none, .fa 4 (.t 1)⟩,
            ⟨some 40, none, .load 1 false (.t 39)⟩,
            ⟨some 41, none, .mv (.t 6)⟩,
            ⟨some 42, none, .ia 5 (.t 40) (.t 41)⟩,
            ⟨some 43, none, .fa 4 (.t 42)⟩,
            ⟨some 44, none, .load 1 false (.t 43)⟩,
            ⟨some 45, none, .mv (.t 7)⟩,
            ⟨some 2, none, .mv (.t 44)⟩,
            ⟨some 3, none, .mv (.t 45)⟩] false [] k21)
          (.ret))
         (.skip))))
      (.skip)))
    (.seq (.region [⟨some 2, none, .mv (.c (.d (.lit (.int .i64 0))))⟩,
       ⟨some 3, none, .mv (.c (.d (.lit (.int .i64 0))))⟩] false [] k21)
     (.ret)))),
 [(2, none), (3, none)]⟩
theorem ok21 : FnOk Try.prog 21 v21 := ⟨Try.f21, _, k21, Try.func21, by kernel_rfl, rfl, by kernel_rfl, by kernel_rfl, by kernel_rfl, by kernel_rfl⟩
/-- tailwater/tumble.Number -/
def k22 : List Nat := [0, 1, 4, 5, 6, 7, 12, 20]
def v22 : VFn := ⟨24,
 .seq (.region [⟨some 4, none, .mv (.c (.d (.lit (.int .i64 0))))⟩,
    ⟨some 5, none, .mv (.c (.d (.lit (.int .i64 0))))⟩] false [] k22)
  (.seq (.seq (.region [⟨some 8, none, .mv (.t 0)⟩,
      ⟨some 9, none, .mv (.t 1)⟩,
      ⟨some 10, none, .call 31 [.t 8, .t 9]⟩,
      ⟨some 6, none, .mv (.t 10)⟩] false [] k22)
    (.seq (.region [⟨some 11, none, .mv (.t 6)⟩,
       ⟨some 12, none, .bin .neq (.t 11) (.c (.d (.lit (.int .i64 0))))⟩] false [] k22)
     (.cond (.t 12)
      (.seq (.region [⟨some 13, none, .mv (.t 6)⟩,
         ⟨some 4, none, .mv (.c (.d (.lit (.int .i64 0))))⟩,
         ⟨some 5, none, .mv (.t 13)⟩] false [] k22)
       (.ret))
      (.skip))))
   (.seq (.region [⟨some 14, none, .mv (.t 0)⟩,
      ⟨some 15, none, .mv (.t 1)⟩,
      ⟨some 16, none, .bin .quo (.t 14) (.t 15)⟩,
      ⟨some 7, none, .mv (.t 16)⟩] false [] k22)
    (.seq (.seq (.region [⟨some 17, none, .mv (.t 0)⟩,
        ⟨some 18, none, .mv (.t 1)⟩,
        ⟨some 19, none, .bin .rem (.t 17) (.t 18)⟩,
        ⟨some 20, none, .bin .lss (.t 19) (.c (.d (.lit (.int .i64 0))))⟩] false [] k22)
      (.cond (.t 20)
       (.region [⟨some 21, none, .mv (.t 7)⟩,
         ⟨some 22, none, .bin .sub (.t 21) (.c (.d (.lit (.int .i64 1))))⟩,
         ⟨some 7, none, .mv (.t 22)⟩] false [] k22)
       (.skip)))
     (.seq (.region [⟨some 23, none, .mv (.t 7)⟩,
        ⟨some 4, none, .mv (.t 23)⟩,
        ⟨some 5, none, .mv (.c (.d (.lit (.int .i64 0))))⟩] false [] k22)
      (.ret))))),
 [(4, none), (5, none)]⟩
theorem ok22 : FnOk Try.prog 22 v22 := ⟨Try.f22, _, k22, Try.func22, by kernel_rfl, rfl, by kernel_rfl, by kernel_rfl, by kernel_rfl, by kernel_rfl⟩
/-- tailwater/nodes.Check -/
def k24 : List Nat := [0, 2, 4]
def v24 : VFn := ⟨11,
 .seq (.region [⟨some 2, none, .mv (.c (.d (.lit (.int .i64 0))))⟩] false [] k24)
  (.seq (.region [⟨some 6, none, .mv (.t 0)⟩,
     ⟨some 7, none, .call 33 [.t 6]⟩,
     ⟨some 5, none, .mv (.t 7)⟩,
     ⟨some 8, none, .ext (.t 5) 0⟩,
     ⟨some 9, none, .ext (.t 5) 1⟩,
     ⟨some 3, none, .mv (.t 8)⟩,
     ⟨some 4, none, .mv (.t 9)⟩] false [] k24)
   (.seq (.region [⟨some 10, none, .mv (.t 4)⟩,
      ⟨some 2, none, .mv (.t 10)⟩] false [] k24)
    (.ret))),
 [(2, none)]⟩
theorem ok24 : FnOk Try.prog 24 v24 := ⟨Try.f24, _, k24, Try.func24, by kernel_rfl, rfl, by kernel_rfl, by kernel_rfl, by kernel_rfl, by kernel_rfl⟩
/-- tailwater/clauses.Sources -/
def k25 : List Nat := [0, 1, 4, 5, 8, 24, 29]
def v25 : VFn := ⟨30,
 .seq (.region [⟨some 4, none, .mv (.c (.d (.lit (.int .i64 0))))⟩] false [] k25)
  (.seq (.seq (.region [⟨some 6, none, .mv (.t 0)⟩,
      ⟨some 7, none, .len (.t 6)⟩,
      ⟨some 8, none, .bin .gtr (.t 7) (.c (.d (.lit (.int .i64 4))))⟩] false [] k25)
    (.cond (.t 8)
     (.seq (.region [⟨some 4, none, .mv (.c (.d (.lit (.int .i64 4))))⟩] false [] k25)
      (.ret))
     (.skip)))
   (.seq (.region [⟨some 5, none, .mv (.c (.clo 34 []))⟩] false [] k25)
    (.seq (.seq (.region [⟨some 9, none, .mv (.t 0)⟩,
        ⟨some 10, none, .len (.t 9)⟩,
        ⟨some 11, none, .bin .eql (.t 10) (.c (.d (.lit (.int .i64 0))))⟩,
        ⟨some 12, none, .mv (.t 11)⟩,
        ⟨some 13, some (3, false), .mv (.t 1)⟩,
        ⟨some 14, some (3, false), .mv (.t 13)⟩,
        ⟨some 15, some (5, true), .mv (.t 0)⟩,
        ⟨some 16, some (5, true), .len (.t 15)⟩,
        ⟨some 17, some (5, true), .bin .neq (.t 16) (.c (.d (.lit (.int .i64 2))))⟩,
        ⟨some 18, some (3, false), .pick (.t 14) (.t 17) (.c (.d (.lit (.bool false))))⟩,
        ⟨some 19, none, .pick (.t 12) (.c (.d (.lit (.bool true)))) (.t 18)⟩,
        ⟨some 20, none, .mv (.t 19)⟩,
        ⟨some 21, some (11, false), .mv (.t 0)⟩,
        ⟨some 22, some (11, false), .mv (.t 5)⟩,
        ⟨some 23, some (11, false), .call 35 [.t 21, .t 22]⟩,
        ⟨some 24, none, .pick (.t 20) (.c (.d (.lit (.bool true)))) (.t 23)⟩] false [] k25)
      (.cond (.t 24)
       (.seq (.region [⟨some 4, none, .mv (.c (.d (.lit (.int .i64 8))))⟩] false [] k25)
        (.ret))
       (.skip)))
     (.seq (.seq (.region [⟨some 25, none, .mv (.t 0)⟩,
         ⟨some 26, none, .call 36 [.t 25]⟩,
         ⟨some 27, none, .mv (.t 0)⟩,
         ⟨some 28, none, .len (.t 27)⟩,
         ⟨some 29, none, .bin .lss (.t 26) (.t 28)⟩] false [] k25)
       (.cond (.t 29)
        (.seq (.region [⟨some 4, none, .mv (.c (.d (.lit (.int .i64 43))))⟩] false [] k25)
         (.ret))
        (.skip)))
      (.seq (.region [⟨some 4, none, .mv (.c (.d (.lit (.int .i64 0))))⟩] false [] k25)
       (.ret)))))),
 [(4, none)]⟩
theorem ok25 : FnOk Try.prog 25 v25 := ⟨Try.f25, _, k25, Try.func25, by kernel_rfl, rfl, by kernel_rfl, by kernel_rfl, by kernel_rfl, by kernel_rfl⟩
/-- tailwater/kinds.want -/
def k26 : List Nat := [0, 1, 4, 5, 6, 7, 8, 21]
def v26 : VFn := ⟨24,
 .seq (.region [⟨some 4, none, .mv (.c (.d (.lit (.int .i64 0))))⟩,
    ⟨some 5, none, .mv (.c (.d (.lit (.int .i64 0))))⟩] false [] k26)
  (.seq (.region [⟨some 10, none, .mv (.t 0)⟩,
     ⟨some 11, none, .call 37 [.t 10]⟩,
     ⟨some 9, none, .mv (.t 11)⟩,
     ⟨some 12, none, .ext (.t 9) 0⟩,
     ⟨some 13, none, .ext (.t 9) 1⟩,
     ⟨some 14, none, .ext (.t 9) 2⟩,
     ⟨some 6, none, .mv (.t 12)⟩,
     ⟨some 7, none, .mv (.t 13)⟩,
     ⟨some 8, none, .mv (.t 14)⟩] false [] k26)
   (.seq (.seq (.region [⟨some 15, none, .mv (.t 8)⟩,
       ⟨some 16, none, .bin .eql (.t 15) (.c (.d (.lit (.int .i64 0))))⟩,
       ⟨some 17, none, .mv (.t 16)⟩,
       ⟨some 18, some (2, true), .mv (.t 6)⟩,
       ⟨some 19, some (2, true), .mv (.t 1)⟩,
       ⟨some 20, some (2, true), .eqb true (.t 18) (.t 19)⟩,
       ⟨some 21, none, .pick (.t 17) (.t 20) (.c (.d (.lit (.bool false))))⟩] false [] k26)
     (.cond (.t 21)
      (.region [⟨some 8, none, .mv (.c (.d (.lit (.int .i64 42))))⟩] false [] k26)
      (.skip)))
    (.seq (.region [⟨some 22, none, .mv (.t 7)⟩,
       ⟨some 23, none, .mv (.t 8)⟩,
       ⟨some 4, none, .mv (.t 22)⟩,
       ⟨some 5, none, .mv (.t 23)⟩] false [] k26)
     (.ret)))),
 [(4, none), (5, none)]⟩
theorem ok26 : FnOk Try.prog 26 v26 := ⟨Try.f26, _, k26, Try.func26, by kernel_rfl, rfl, by kernel_rfl, by kernel_rfl, by kernel_rfl, by kernel_rfl⟩
/-- tailwater/tailwaterref04.Check -/
def k27 : List Nat := [0, 2, 4, 5, 8, 16, 23]
def v27 : VFn := ⟨24,
 .seq (.region [⟨some 2, none, .mv (.c (.d (.lit (.int .i64 0))))⟩] false [] k27)
  (.seq (.seq (.region [⟨some 6, none, .mv (.t 0)⟩,
      ⟨some 7, none, .len (.t 6)⟩,
      ⟨some 8, none, .bin .gtr (.t 7) (.c (.d (.lit (.int .i64 60))))⟩] false [] k27)
    (.cond (.t 8)
     (.seq (.region [⟨some 2, none, .mv (.c (.d (.lit (.int .i64 4))))⟩] false [] k27)
      (.ret))
     (.skip)))
   (.seq (.region [⟨some 10, none, .mv (.t 0)⟩,
      ⟨some 11, none, .call 38 [.t 10]⟩,
      ⟨some 9, none, .mv (.t 11)⟩,
      ⟨some 12, none, .ext (.t 9) 0⟩,
      ⟨some 13, none, .ext (.t 9) 1⟩,
      ⟨some 14, none, .ext (.t 9) 2⟩,
      ⟨some 3, none, .mv (.t 12)⟩,
      ⟨some 4, none, .mv (.t 13)⟩,
      ⟨some 5, none, .mv (.t 14)⟩] false [] k27)
    (.seq (.seq (.region [⟨some 15, none, .mv (.t 5)⟩,
        ⟨some 16, none, .un .not (.t 15)⟩] false [] k27)
      (.cond (.t 16)
       (.seq (.region [⟨some 2, none, .mv (.c (.d (.lit (.int .i64 8))))⟩] false [] k27)
        (.ret))
       (.skip)))
     (.seq (.seq (.region [⟨some 17, none, .mv (.t 4)⟩,
         ⟨some 18, none, .mv (.t 0)⟩,
         ⟨some 19, none, .len (.t 18)⟩,
         ⟨some 20, none, .bin .sub (.t 19) (.c (.d (.lit (.int .i64 1))))⟩,
         ⟨some 21, none, .ia 1 (.t 17) (.t 20)⟩,
         ⟨some 22, none, .load 1 false (.t 21)⟩,
         ⟨some 23, none, .bin .gtr (.t 22) (.c (.d (.lit (.int .i64 20))))⟩] false [] k27)
       (.cond (.t 23)
        (.seq (.region [⟨some 2, none, .mv (.c (.d (.lit (.int .i64 34))))⟩] false [] k27)
         (.ret))
        (.skip)))
      (.seq (.region [⟨some 2, none, .mv (.c (.d (.lit (.int .i64 0))))⟩] false [] k27)
       (.ret)))))),
 [(2, none)]⟩
theorem ok27 : FnOk Try.prog 27 v27 := ⟨Try.f27, _, k27, Try.func27, by kernel_rfl, rfl, by kernel_rfl, by kernel_rfl, by kernel_rfl, by kernel_rfl⟩
/-- tailwater/tailwaterref08.Sources -/
def k28 : List Nat := [0, 1, 4, 5, 6, 7, 10, 21, 25, 39, 43, 48, 59]
def v28L0 : VCode :=
 .seq (.seq (.region [⟨some 22, none, .mv (.t 5)⟩,
     ⟨some 23, none, .mv (.t 0)⟩,
     ⟨some 24, none, .len (.t 23)⟩,
     ⟨some 25, none, .bin .lss (.t 22) (.t 24)⟩] false [] k28)
   (.cond (.t 25)
    (.skip)
    (.exit 0)))
  (.seq (.block 1 (.seq (.region [⟨some 28, none, .mv (.t 0)⟩,
       ⟨some 29, none, .mv (.t 5)⟩,
       ⟨some 30, none, .ia 1 (.t 28) (.t 29)⟩,
       ⟨some 31, none, .load 1 false (.t 30)⟩,
       ⟨some 32, none, .bin .lss (.t 31) (.c (.d (.lit (.int .i64 0))))⟩,
       ⟨some 33, none, .mv (.t 32)⟩,
       ⟨some 34, some (5, false), .mv (.t 0)⟩,
       ⟨some 35, some (5, false), .mv (.t 5)⟩,
       ⟨some 36, some (5, false), .ia 1 (.t 34) (.t 35)⟩,
       ⟨some 37, some (5, false), .load 1 false (.t 36)⟩,
       ⟨some 38, some (5, false), .bin .gtr (.t 37) (.c (.d (.lit (.int .i64 3))))⟩,
       ⟨some 39, none, .pick (.t 33) (.c (.d (.lit (.bool true)))) (.t 38)⟩] false [] k28)
     (.cond (.t 39)
      (.seq (.region [⟨some 4, none, .mv (.c (.d (.lit (.int .i64 8))))⟩] false [] k28)
       (.ret))
      (.skip))))
   (.region [⟨some 26, none, .mv (.t 5)⟩,
     ⟨some 27, none, .bin .add (.t 26) (.c (.d (.lit (.int .i64 1))))⟩,
     ⟨some 5, none, .mv (.t 27)⟩] false [] k28))
def v28L1 : VCode :=
 .seq (.seq (.region [⟨some 46, none, .mv (.t 7)⟩,
     ⟨some 47, none, .mv (.t 6)⟩,
     ⟨some 48, none, .bin .lss (.t 46) (.t 47)⟩] false [] k28)
   (.cond (.t 48)
    (.skip)
    (.exit 4)))
  (.seq (.block 5 (.seq (.region [⟨some 51, none, .mv (.t 0)⟩,
       ⟨some 52, none, .mv (.t 7)⟩,
       ⟨some 53, none, .ia 1 (.t 51) (.t 52)⟩,
       ⟨some 54, none, .load 1 false (.t 53)⟩,
       ⟨some 55, none, .mv (.t 0)⟩,
       ⟨some 56, none, .mv (.t 6)⟩,
       ⟨some 57, none, .ia 1 (.t 55) (.t 56)⟩,
       ⟨some 58, none, .load 1 false (.t 57)⟩,
       ⟨some 59, none, .bin .eql (.t 54) (.t 58)⟩] true [[], [], [0, 1], [2, 0, 1], [], [], [4, 5], [6, 4, 5], [3, 2, 0, 1, 7, 6, 4, 5]] k28)
     (.cond (.t 59)
      (.seq (.region [⟨some 4, none, .mv (.c (.d (.lit (.int .i64 43))))⟩] false [] k28)
       (.ret))
      (.skip))))
   (.region [⟨some 49, none, .mv (.t 7)⟩,
     ⟨some 50, none, .bin .add (.t 49) (.c (.d (.lit (.int .i64 1))))⟩,
     ⟨some 7, none, .mv (.t 50)⟩] false [] k28))
def v28L2 : VCode :=
 .seq (.seq (.region [⟨some 40, none, .mv (.t 6)⟩,
     ⟨some 41, none, .mv (.t 0)⟩,
     ⟨some 42, none, .len (.t 41)⟩,
     ⟨some 43, none, .bin .lss (.t 40) (.t 42)⟩] false [] k28)
   (.cond (.t 43)
    (.skip)
    (.exit 2)))
  (.seq (.block 3 (.seq (.region [⟨some 7, none, .mv (.c (.d (.lit (.int .i64 0))))⟩] false [] k28)
     (.block 4 (.loop v28L1))))
   (.region [⟨some 44, none, .mv (.t 6)⟩,
     ⟨some 45, none, .bin .add (.t 44) (.c (.d (.lit (.int .i64 1))))⟩,
     ⟨some 6, none, .mv (.t 45)⟩] false [] k28))
def v28 : VFn := ⟨60,
 .seq (.region [⟨some 4, none, .mv (.c (.d (.lit (.int .i64 0))))⟩] false [] k28)
  (.seq (.seq (.region [⟨some 8, none, .mv (.t 0)⟩,
      ⟨some 9, none, .len (.t 8)⟩,
      ⟨some 10, none, .bin .gtr (.t 9) (.c (.d (.lit (.int .i64 4))))⟩] false [] k28)
    (.cond (.t 10)
     (.seq (.region [⟨some 4, none, .mv (.c (.d (.lit (.int .i64 4))))⟩] false [] k28)
      (.ret))
     (.skip)))
   (.seq (.seq (.region [⟨some 11, none, .mv (.t 0)⟩,
       ⟨some 12, none, .len (.t 11)⟩,
       ⟨some 13, none, .bin .eql (.t 12) (.c (.d (.lit (.int .i64 0))))⟩,
       ⟨some 14, none, .mv (.t 13)⟩,
       ⟨some 15, some (3, false), .mv (.t 1)⟩,
       ⟨some 16, some (3, false), .mv (.t 15)⟩,
       ⟨some 17, some (5, true), .mv (.t 0)⟩,
       ⟨some 18, some (5, true), .len (.t 17)⟩,
       ⟨some 19, some (5, true), .bin .neq (.t 18) (.c (.d (.lit (.int .i64 2))))⟩,
       ⟨some 20, some (3, false), .pick (.t 16) (.t 19) (.c (.d (.lit (.bool false))))⟩,
       ⟨some 21, none, .pick (.t 14) (.c (.d (.lit (.bool true)))) (.t 20)⟩] false [] k28)
     (.cond (.t 21)
      (.seq (.region [⟨some 4, none, .mv (.c (.d (.lit (.int .i64 8))))⟩] false [] k28)
       (.ret))
      (.skip)))
    (.seq (.seq (.region [⟨some 5, none, .mv (.c (.d (.lit (.int .i64 0))))⟩] false [] k28)
      (.block 0 (.loop v28L0)))
     (.seq (.seq (.region [⟨some 6, none, .mv (.c (.d (.lit (.int .i64 0))))⟩] false [] k28)
       (.block 2 (.loop v28L2)))
      (.seq (.region [⟨some 4, none, .mv (.c (.d (.lit (.int .i64 0))))⟩] false [] k28)
       (.ret)))))),
 [(4, none)]⟩
theorem ok28 : FnOk Try.prog 28 v28 := ⟨Try.f28, _, k28, Try.func28, by kernel_rfl, rfl, by kernel_rfl, by kernel_rfl, by kernel_rfl, by kernel_rfl⟩
/-- tailwater/tailwaterref08.Fits -/
def k29 : List Nat := [0, 1, 2, 10, 13]
def v29 : VFn := ⟨45,
 .seq (.region [⟨some 1, none, .box 25 3 (.t 0)⟩,
    ⟨some 2, none, .mv (.c (.d (.lit (.bool false))))⟩] false [] k29)
  (.seq (.seq (.region [⟨some 3, none, .fa 1 (.t 1)⟩,
      ⟨some 4, none, .load 1 false (.t 3)⟩,
      ⟨some 5, none, .bin .lss (.t 4) (.c (.d (.lit (.int .i64 1))))⟩,
      ⟨some 6, none, .mv (.t 5)⟩,
      ⟨some 7, some (3, false), .fa 1 (.t 1)⟩,
      ⟨some 8, some (3, false), .load 1 false (.t 7)⟩,
      ⟨some 9, some (3, false), .bin .gtr (.t 8) (.c (.d (.lit (.int .i64 1073741824))))⟩,
      ⟨some 10, none, .pick (.t 6) (.c (.d (.lit (.bool true)))) (.t 9)⟩] false [] k29)
    (.cond (.t 10)
     (.seq (.region [⟨some 2, none, .mv (.c (.d (.lit (.bool false))))⟩] false [] k29)
      (.ret))
     (.skip)))
   (.seq (.seq (.region [⟨some 11, none, .fa 0 (.t 1)⟩,
       ⟨some 12, none, .load 1 false (.t 11)⟩,
       ⟨some 13, none, .bin .eql (.t 12) (.c (.d (.lit (.int .u8 2))))⟩] false [] k29)
     (.cond (.t 13)
      (.seq (.region [⟨some 14, none, .fa 2 (.t 1)⟩,
         ⟨some 15, none, .load 1 false (.t 14)⟩,
         ⟨some 16, none, .bin .geq (.t 15) (.c (.d (.lit (.int .i64 1))))⟩,
         ⟨some 17, none, .mv (.t 16)⟩,
         ⟨some 18, some (3, true), .fa 2 (.t 1)⟩,
         ⟨some 19, some (3, true), .load 1 false (.t 18)⟩,
         ⟨some 20, some (3, true), .fa 1 (.t 1)⟩,
         ⟨some 21, some (3, true), .load 1 false (.t 20)⟩,
         ⟨some 22, some (3, true), .bin .leq (.t 19) (.t 21)⟩,
         ⟨some 23, none, .pick (.t 17) (.t 22) (.c (.d (.lit (.bool false))))⟩,
         ⟨some 24, none, .mv (.t 23)⟩,
         ⟨some 25, some (10, true), .fa 1 (.t 1)⟩,
         ⟨some 26, some (10, true), .load 1 false (.t 25)⟩,
         ⟨some 27, some (10, true), .fa 2 (.t 1)⟩,
         ⟨some 28, some (10, true), .load 1 false (.t 27)⟩,
         ⟨some 29, some (10, true), .bin .mul (.c (.d (.lit (.int .i64 16)))) (.t 28)⟩,
         ⟨some 30, some (10, true), .bin .leq (.t 26) (.t 29)⟩,
         ⟨some 31, none, .pick (.t 24) (.t 30) (.c (.d (.lit (.bool false))))⟩,
         ⟨some 2, none, .mv (.t 31)⟩] false [] k29)
       (.ret))
      (.skip)))
    (.seq (.region [⟨some 32, none, .fa 0 (.t 1)⟩,
       ⟨some 33, none, .load 1 false (.t 32)⟩,
       ⟨some 34, none, .bin .eql (.t 33) (.c (.d (.lit (.int .u8 1))))⟩,
       ⟨some 35, none, .mv (.t 34)⟩,
       ⟨some 36, some (3, false), .fa 0 (.t 1)⟩,
       ⟨some 37, some (3, false), .load 1 false (.t 36)⟩,
       ⟨some 38, some (3, false), .bin .eql (.t 37) (.c (.d (.lit (.int .u8 3))))⟩,
       ⟨some 39, none, .pick (.t 35) (.c (.d (.lit (.bool true)))) (.t 38)⟩,
       ⟨some 40, none, .mv (.t 39)⟩,
       ⟨some 41, some (8, true), .fa 2 (.t 1)⟩,
       ⟨some 42, some (8, true), .load 1 false (.t 41)⟩,
       ⟨some 43, some (8, true), .bin .eql (.t 42) (.c (.d (.lit (.int .i64 0))))⟩,
       ⟨some 44, none, .pick (.t 40) (.t 43) (.c (.d (.lit (.bool false))))⟩,
       ⟨some 2, none, .mv (.t 44)⟩] false [] k29)
     (.ret)))),
 [(2, none)]⟩
theorem ok29 : FnOk Try.prog 29 v29 := ⟨Try.f29, _, k29, Try.func29, by kernel_rfl, rfl, by kernel_rfl, by kernel_rfl, by kernel_rfl, by kernel_rfl⟩
/-- tailwater/tailwaterref06.Want -/
def k30 : List Nat := [0, 1, 4, 5, 6, 7, 8, 21]
def v30 : VFn := ⟨25,
 .seq (.region [⟨some 4, none, .mv (.c (.d (.lit (.int .i64 0))))⟩,
    ⟨some 5, none, .mv (.c (.d (.lit (.int .i64 0))))⟩] false [] k30)
  (.seq (.region [⟨some 10, none, .mv (.t 0)⟩,
     ⟨some 11, none, .call 39 [.t 10]⟩,
     ⟨some 9, none, .mv (.t 11)⟩,
     ⟨some 12, none, .ext (.t 9) 0⟩,
     ⟨some 13, none, .ext (.t 9) 1⟩,
     ⟨some 14, none, .ext (.t 9) 2⟩,
     ⟨some 6, none, .mv (.t 12)⟩,
     ⟨some 7, none, .mv (.t 13)⟩,
     ⟨some 8, none, .mv (.t 14)⟩] false [] k30)
   (.seq (.seq (.region [⟨some 15, none, .mv (.t 8)⟩,
       ⟨some 16, none, .bin .eql (.t 15) (.c (.d (.lit (.int .i64 0))))⟩,
       ⟨some 17, none, .mv (.t 16)⟩,
       ⟨some 18, some (2, true), .mv (.t 6)⟩,
       ⟨some 19, some (2, true), .mv (.t 1)⟩,
       ⟨some 20, some (2, true), .eqb true (.t 18) (.t 19)⟩,
       ⟨some 21, none, .pick (.t 17) (.t 20) (.c (.d (.lit (.bool false))))⟩] false [] k30)
     (.cond (.t 21)
      (.seq (.region [⟨some 22, none, .mv (.t 7)⟩,
         ⟨some 4, none, .mv (.t 22)⟩,
         ⟨some 5, none, .mv (.c (.d (.lit (.int .i64 42))))⟩] false [] k30)
       (.ret))
      (.skip)))
    (.seq (.region [⟨some 23, none, .mv (.t 7)⟩,
       ⟨some 24, none, .mv (.t 8)⟩,
       ⟨some 4, none, .mv (.t 23)⟩,
       ⟨some 5, none, .mv (.t 24)⟩] false [] k30)
     (.ret)))),
 [(4, none), (5, none)]⟩
theorem ok30 : FnOk Try.prog 30 v30 := ⟨Try.f30, _, k30, Try.func30, by kernel_rfl, rfl, by kernel_rfl, by kernel_rfl, by kernel_rfl, by kernel_rfl⟩
/-- tailwater/tumble.check -/
def k31 : List Nat := [0, 1, 4, 10, 16]
def v31 : VFn := ⟨17,
 .seq (.region [⟨some 4, none, .mv (.c (.d (.lit (.int .i64 0))))⟩] false [] k31)
  (.seq (.seq (.region [⟨some 5, none, .mv (.t 1)⟩,
      ⟨some 6, none, .bin .lss (.t 5) (.c (.d (.lit (.int .i64 1))))⟩,
      ⟨some 7, none, .mv (.t 6)⟩,
      ⟨some 8, some (2, false), .mv (.t 1)⟩,
      ⟨some 9, some (2, false), .bin .gtr (.t 8) (.c (.d (.lit (.int .i64 1073741824))))⟩,
      ⟨some 10, none, .pick (.t 7) (.c (.d (.lit (.bool true)))) (.t 9)⟩] false [] k31)
    (.cond (.t 10)
     (.seq (.region [⟨some 4, none, .mv (.c (.d (.lit (.int .i64 2))))⟩] false [] k31)
      (.ret))
     (.skip)))
   (.seq (.seq (.region [⟨some 11, none, .mv (.t 0)⟩,
       ⟨some 12, none, .bin .lss (.t 11) (.c (.d (.lit (.int .i64 (-1099511627776)))))⟩,
       ⟨some 13, none, .mv (.t 12)⟩,
       ⟨some 14, some (2, false), .mv (.t 0)⟩,
       ⟨some 15, some (2, false), .bin .gtr (.t 14) (.c (.d (.lit (.int .i64 1099511627776))))⟩,
       ⟨some 16, none, .pick (.t 13) (.c (.d (.lit (.bool true)))) (.t 15)⟩] false [] k31)
     (.cond (.t 16)
      (.seq (.region [⟨some 4, none, .mv (.c (.d (.lit (.int .i64 16))))⟩] false [] k31)
       (.ret))
      (.skip)))
    (.seq (.region [⟨some 4, none, .mv (.c (.d (.lit (.int .i64 0))))⟩] false [] k31)
     (.ret)))),
 [(4, none)]⟩
theorem ok31 : FnOk Try.prog 31 v31 := ⟨Try.f31, _, k31, Try.func31, by kernel_rfl, rfl, by kernel_rfl, by kernel_rfl, by kernel_rfl, by kernel_rfl⟩
/-- tailwater/nodes.check -/
def k33 : List Nat := [0, 2, 3, 4, 5, 8, 15, 23]
def v33 : VFn := ⟨25,
 .seq (.region [⟨some 2, none, .mv (.c (.nilS))⟩,
    ⟨some 3, none, .mv (.c (.d (.lit (.int .i64 0))))⟩] false [] k33)
  (.seq (.seq (.region [⟨some 6, none, .mv (.t 0)⟩,
      ⟨some 7, none, .len (.t 6)⟩,
      ⟨some 8, none, .bin .gtr (.t 7) (.c (.d (.lit (.int .i64 60))))⟩] false [] k33)
    (.cond (.t 8)
     (.seq (.region [⟨some 2, none, .mv (.c (.nilS))⟩,
        ⟨some 3, none, .mv (.c (.d (.lit (.int .i64 4))))⟩] false [] k33)
      (.ret))
     (.skip)))
   (.seq (.region [⟨some 10, none, .mv (.t 0)⟩,
      ⟨some 11, none, .call 40 [.t 10]⟩,
      ⟨some 9, none, .mv (.t 11)⟩,
      ⟨some 12, none, .ext (.t 9) 0⟩,
      ⟨some 13, none, .ext (.t 9) 1⟩,
      ⟨some 4, none, .mv (.t 12)⟩,
      ⟨some 5, none, .mv (.t 13)⟩] false [] k33)
    (.seq (.seq (.region [⟨some 14, none, .mv (.t 5)⟩,
        ⟨some 15, none, .un .not (.t 14)⟩] false [] k33)
      (.cond (.t 15)
       (.seq (.region [⟨some 2, none, .mv (.c (.nilS))⟩,
          ⟨some 3, none, .mv (.c (.d (.lit (.int .i64 8))))⟩] false [] k33)
        (.ret))
       (.skip)))
     (.seq (.seq (.region [⟨some 16, none, .mv (.t 4)⟩,
         ⟨some 17, none, .mv (.t 4)⟩,
         ⟨some 18, none, .len (.t 17)⟩,
         ⟨some 19, none, .bin .sub (.t 18) (.c (.d (.lit (.int .i64 1))))⟩,
         ⟨some 20, none, .ia 3 (.t 16) (.t 19)⟩,
         ⟨some 21, none, .fa 2 (.t 20)⟩,
         ⟨some 22, none, .load 1 false (.t 21)⟩,
         ⟨some 23, none, .bin .gtr (.t 22) (.c (.d (.lit (.int .i64 20))))⟩] false [] k33)
       (.cond (.t 23)
        (.seq (.region [⟨some 2, none, .mv (.c (.nilS))⟩,
           ⟨some 3, none, .mv (.c (.d (.lit (.int .i64 34))))⟩] false [] k33)
         (.ret))
        (.skip)))
      (.seq (.region [⟨some 24, none, .mv (.t 4)⟩,
         ⟨some 2, none, .mv (.t 24)⟩,
         ⟨some 3, none, .mv (.c (.d (.lit (.int .i64 0))))⟩] false [] k33)
       (.ret)))))),
 [(2, none), (3, none)]⟩
theorem ok33 : FnOk Try.prog 33 v33 := ⟨Try.f33, _, k33, Try.func33, by kernel_rfl, rfl, by kernel_rfl, by kernel_rfl, by kernel_rfl, by kernel_rfl⟩
/-- tailwater/clauses.Sources$1 -/
def k34 : List Nat := [0, 2]
def v34 : VFn := ⟨9,
 .seq (.region [⟨some 2, none, .mv (.c (.d (.lit (.bool false))))⟩] false [] [0, 2])
  (.seq (.region [⟨some 3, none, .mv (.t 0)⟩,
     ⟨some 4, none, .bin .lss (.t 3) (.c (.d (.lit (.int .i64 0))))⟩,
     ⟨some 5, none, .mv (.t 4)⟩,
     ⟨some 6, some (2, false), .mv (.t 0)⟩,
     ⟨some 7, some (2, false), .bin .geq (.t 6) (.c (.d (.lit (.int .i64 4))))⟩,
     ⟨some 8, none, .pick (.t 5) (.c (.d (.lit (.bool true)))) (.t 7)⟩,
     ⟨some 2, none, .mv (.t 8)⟩] false [] [0, 2])
   (.ret)),
 [(2, none)]⟩
theorem ok34 : FnOk Try.prog 34 v34 := ⟨Try.f34, _, k34, Try.func34, by kernel_rfl, rfl, by kernel_rfl, by kernel_rfl, by kernel_rfl, by kernel_rfl⟩
/-- slices.ContainsFunc[[]int,int] -/
def k35 : List Nat := [0, 1, 4]
def v35 : VFn := ⟨9,
 .seq (.region [⟨some 4, none, .mv (.c (.d (.lit (.bool false))))⟩] false [] k35)
  (.seq (.region [⟨some 5, none, .mv (.t 0)⟩,
     ⟨some 6, none, .mv (.t 1)⟩,
     ⟨some 7, none, .call 41 [.t 5, .t 6]⟩,
     ⟨some 8, none, .bin .geq (.t 7) (.c (.d (.lit (.int .i64 0))))⟩,
     ⟨some 4, none, .mv (.t 8)⟩] false [] k35)
   (.ret)),
 [(4, none)]⟩
theorem ok35 : FnOk Try.prog 35 v35 := ⟨Try.f35, _, k35, Try.func35, by kernel_rfl, rfl, by kernel_rfl, by kernel_rfl, by kernel_rfl, by kernel_rfl⟩
/-- tailwater/kinds.Of -/
def k37 : List Nat := [0, 2, 3, 4, 5, 6, 7, 11, 21]
def v37 : VFn := ⟨30,
 .seq (.region [⟨some 2, none, .mv (.c (.d (.lit (.bool false))))⟩,
    ⟨some 3, none, .mv (.c (.d (.lit (.int .i64 0))))⟩,
    ⟨some 4, none, .mv (.c (.d (.lit (.int .i64 0))))⟩] false [] k37)
  (.seq (.seq (.region [⟨some 8, none, .mv (.t 0)⟩,
      ⟨some 9, none, .call 24 [.t 8]⟩,
      ⟨some 5, none, .mv (.t 9)⟩] false [] k37)
    (.seq (.region [⟨some 10, none, .mv (.t 5)⟩,
       ⟨some 11, none, .bin .neq (.t 10) (.c (.d (.lit (.int .i64 0))))⟩] false [] k37)
     (.cond (.t 11)
      (.seq (.region [⟨some 12, none, .mv (.t 5)⟩,
         ⟨some 2, none, .mv (.c (.d (.lit (.bool false))))⟩,
         ⟨some 3, none, .mv (.c (.d (.lit (.int .i64 0))))⟩,
         ⟨some 4, none, .mv (.t 12)⟩] false [] k37)
       (.ret))
      (.skip))))
   (.seq (.region [⟨some 14, none, .mv (.t 0)⟩,
      ⟨some 15, none, .call 42 [.t 14]⟩,
      ⟨some 13, none, .mv (.t 15)⟩,
      ⟨some 16, none, .ext (.t 13) 0⟩,
      ⟨some 17, none, .ext (.t 13) 1⟩,
      ⟨some 6, none, .mv (.t 16)⟩,
      ⟨some 7, none, .mv (.t 17)⟩] false [] k37)
    (.seq (.seq (.region [⟨some 18, none, .mv (.t 7)⟩,
        ⟨some 19, none, .mv (.t 0)⟩,
        ⟨some 20, none, .len (.t 19)⟩,
        ⟨some 21, none, .bin .lss (.t 18) (.t 20)⟩] false [] k37)
      (.cond (.t 21)
       (.seq (.region [⟨some 22, none, .mv (.t 7)⟩,
          ⟨some 2, none, .mv (.c (.d (.lit (.bool false))))⟩,
          ⟨some 3, none, .mv (.t 22)⟩,
          ⟨some 4, none, .mv (.c (.d (.lit (.int .i64 42))))⟩] false [] k37)
        (.ret))
       (.skip)))
     (.seq (.region [⟨some 23, none, .mv (.t 6)⟩,
        ⟨some 24, none, .mv (.t 7)⟩,
        ⟨some 25, none, .bin .sub (.t 24) (.c (.d (.lit (.int .i64 1))))⟩,
        ⟨some 26, none, .ia 1 (.t 23) (.t 25)⟩,
        ⟨some 27, none, .load 1 false (.t 26)⟩,
        ⟨some 28, none, .mv (.t 7)⟩,
        ⟨some 29, none, .bin .sub (.t 28) (.c (.d (.lit (.int .i64 1))))⟩,
        ⟨some 2, none, .mv (.t 27)⟩,
        ⟨some 3, none, .mv (.t 29)⟩,
        ⟨some 4, none, .mv (.c (.d (.lit (.int .i64 0))))⟩] false [] k37)
      (.ret))))),
 [(2, none), (3, none), (4, none)]⟩
theorem ok37 : FnOk Try.prog 37 v37 := ⟨Try.f37, _, k37, Try.func37, by kernel_rfl, rfl, by kernel_rfl, by kernel_rfl, by kernel_rfl, by kernel_rfl⟩
/-- tailwater/tailwaterref04.Sizes -/
def k38 : List Nat := [0, 2, 3, 4, 5, 6, 7, 8, 9, 10, 11, 12, 13, 14, 18, 28, 32, 52, 54, 77]
def v38L0 : VCode :=
 .seq (.seq (.region [⟨some 15, none, .mv (.t 7)⟩,
     ⟨some 16, none, .mv (.t 0)⟩,
     ⟨some 17, none, .len (.t 16)⟩,
     ⟨some 18, none, .bin .lss (.t 15) (.t 17)⟩] false [] k38)
   (.cond (.t 18)
    (.skip)
    (.exit 0)))
  (.seq (.block 1 (.seq (.region [⟨some 8, none, .mv (.c (.d (.lit (.int .i64 0))))⟩,
       ⟨some 9, none, .mv (.c (.d (.lit (.int .i64 0))))⟩,
       ⟨some 10, none, .mv (.c (.d (.lit (.int .i64 1))))⟩,
       ⟨some 11, none, .mv (.c (.d (.lit (.int .i64 1))))⟩] false [] k38)
     (.seq (.region [⟨some 21, none, .mv (.t 0)⟩,
        ⟨some 22, none, .mv (.t 7)⟩,
        ⟨some 23, none, .ia 5 (.t 21) (.t 22)⟩,
        ⟨some 24, none, .fa 0 (.t 23)⟩,
        ⟨some 25, none, .load 1 false (.t 24)⟩,
        ⟨some 26, none, .call 43 [.t 25]⟩,
        ⟨some 12, none, .mv (.t 26)⟩] false [] k38)
      (.seq (.seq (.region [⟨some 27, none, .mv (.t 12)⟩,
          ⟨some 28, none, .bin .gtr (.t 27) (.c (.d (.lit (.int .i64 0))))⟩] false [] k38)
        (.cond (.t 28)
         (.seq (.region [⟨some 29, none, .mv (.t 7)⟩,
            ⟨some 30, none, .bin .sub (.t 29) (.c (.d (.lit (.int .i64 1))))⟩,
            ⟨some 13, none, .mv (.t 30)⟩] false [] k38)
          (.seq (.seq (.region [⟨some 31, none, .mv (.t 13)⟩,
              ⟨some 32, none, .bin .lss (.t 31) (.c (.d (.lit (.int .i64 0))))⟩] false [] k38)
            (.cond (.t 32)
             (.seq (.region [⟨some 2, none, .mv (.c (.nilS))⟩,
                ⟨some 3, none, .mv (.c (.nilS))⟩,
                ⟨some 4, none, .mv (.c (.d (.lit (.bool false))))⟩] false [] k38)
              (.ret))
             (.skip)))
           (.seq (.region [⟨some 33, none, .mv (.t 13)⟩,
              ⟨some 34, none, .mv (.t 5)⟩,
              ⟨some 35, none, .mv (.t 13)⟩,
              ⟨some 36, none, .ia 1 (.t 34) (.t 35)⟩,
              ⟨some 37, none, .load 1 false (.t 36)⟩,
              ⟨some 38, none, .bin .sub (.t 33) (.t 37)⟩,
              ⟨some 14, none, .mv (.t 38)⟩] false [] k38)
            (.seq (.region [⟨some 39, none, .mv (.t 10)⟩,
               ⟨some 40, none, .mv (.t 5)⟩,
               ⟨some 41, none, .mv (.t 13)⟩,
               ⟨some 42, none, .ia 1 (.t 40) (.t 41)⟩,
               ⟨some 43, none, .load 1 false (.t 42)⟩,
               ⟨some 44, none, .bin .add (.t 39) (.t 43)⟩,
               ⟨some 10, none, .mv (.t 44)⟩] false [] k38)
             (.seq (.region [⟨some 45, none, .mv (.t 6)⟩,
                ⟨some 46, none, .mv (.t 13)⟩,
                ⟨some 47, none, .ia 1 (.t 45) (.t 46)⟩,
                ⟨some 48, none, .load 1 false (.t 47)⟩,
                ⟨some 49, none, .bin .add (.c (.d (.lit (.int .i64 1)))) (.t 48)⟩,
                ⟨some 11, none, .mv (.t 49)⟩] false [] k38)
              (.seq (.region [⟨some 50, none, .mv (.t 13)⟩,
                 ⟨some 8, none, .mv (.t 50)⟩] false [] k38)
               (.seq (.region [⟨some 51, none, .mv (.t 12)⟩,
                  ⟨some 52, none, .bin .eql (.t 51) (.c (.d (.lit (.int .i64 2))))⟩] false [] k38)
                (.cond (.t 52)
                 (.seq (.seq (.region [⟨some 53, none, .mv (.t 14)⟩,
                     ⟨some 54, none, .bin .lss (.t 53) (.c (.d (.lit (.int .i64 0))))⟩] false [] k38)
                   (.cond (.t 54)
                    (.seq (.region [⟨some 2, none, .mv (.c (.nilS))⟩,
                       ⟨some 3, none, .mv (.c (.nilS))⟩,
                       ⟨some 4, none, .mv (.c (.d (.lit (.bool false))))⟩] false [] k38)
                     (.ret))
                    (.skip)))
                  (.seq (.region [⟨some 55, none, .mv (.t 14)⟩,
                     ⟨some 56, none, .mv (.t 13)⟩,
                     ⟨some 8, none, .mv (.t 55)⟩,
                     ⟨some 9, none, .mv (.t 56)⟩] false [] k38)
                   (.seq (.region [⟨some 57, none, .mv (.t 10)⟩,
                      ⟨some 58, none, .mv (.t 5)⟩,
                      ⟨some 59, none, .mv (.t 14)⟩,
                      ⟨some 60, none, .ia 1 (.t 58) (.t 59)⟩,
                      ⟨some 61, none, .load 1 false (.t 60)⟩,
                      ⟨some 62, none, .bin .add (.t 57) (.t 61)⟩,
                      ⟨some 10, none, .mv (.t 62)⟩] false [] k38)
                    (.region [⟨some 63, none, .mv (.t 11)⟩,
                      ⟨some 64, none, .mv (.t 6)⟩,
                      ⟨some 65, none, .mv (.t 14)⟩,
                      ⟨some 66, none, .ia 1 (.t 64) (.t 65)⟩,
                      ⟨some 67, none, .load 1 false (.t 66)⟩,
                      ⟨some 68, none, .bin .add (.c (.d (.lit (.int .i64 1)))) (.t 67)⟩,
                      ⟨some 69, none, .mx [.t 63, .t 68]⟩,
                      ⟨some 11, none, .mv (.t 69)⟩] false [] k38))))
                 (.skip)))))))))
         (.skip)))
       (.seq (.seq (.region [⟨some 70, none, .mv (.t 0)⟩,
           ⟨some 71, none, .mv (.t 7)⟩,
           ⟨some 72, none, .ia 5 (.t 70) (.t 71)⟩,
           ⟨some 73, none, .load 5 true (.t 72)⟩,
           ⟨some 74, none, .mv (.t 8)⟩,
           ⟨some 75, none, .mv (.t 9)⟩,
           ⟨some 76, none, .call 44 [.t 73, .t 74, .t 75]⟩,
           ⟨some 77, none, .un .not (.t 76)⟩] false [] k38)
         (.cond (.t 77)
          (.seq (.region [⟨some 2, none, .mv (.c (.nilS))⟩,
             ⟨some 3, none, .mv (.c (.nilS))⟩,
             ⟨some 4, none, .mv (.c (.d (.lit (.bool false))))⟩] false [] k38)
           (.ret))
          (.skip)))
        (.seq (.region [⟨some 78, none, .mv (.t 5)⟩,
           ⟨some 79, none, .mv (.t 10)⟩,
           ⟨some 80, none, .bslice 3 1 [.d (.lit (.int .i64 0))] 1 [(0, .t 79)]⟩,
           ⟨some 81, none, .app 3 1 8 (.t 78) (.t 80)⟩,
           ⟨some 5, none, .mv (.t 81)⟩] false [] k38)
         (.region [⟨some 82, none, .mv (.t 6)⟩,
           ⟨some 83, none, .mv (.t 11)⟩,
           ⟨some 84, none, .bslice 3 1 [.d (.lit (.int .i64 0))] 1 [(0, .t 83)]⟩,
           ⟨some 85, none, .app 3 1 8 (.t 82) (.t 84)⟩,
           ⟨some 6, none, .mv (.t 85)⟩] false [] k38)))))))
   (.region [⟨some 19, none, .mv (.t 7)⟩,
     ⟨some 20, none, .bin .add (.t 19) (.c (.d (.lit (.int .i64 1))))⟩,
     ⟨some 7, none, .mv (.t 20)⟩] false [] k38))
def v38 : VFn := ⟨102,
 .seq (.region [⟨some 2, none, .mv (.c (.nilS))⟩,
    ⟨some 3, none, .mv (.c (.nilS))⟩,
    ⟨some 4, none, .mv (.c (.d (.lit (.bool false))))⟩] false [] k38)
  (.seq (.region [⟨some 5, none, .mv (.c (.nilS))⟩,
     ⟨some 6, none, .mv (.c (.nilS))⟩] false [] k38)
   (.seq (.seq (.region [⟨some 7, none, .mv (.c (.d (.lit (.int .i64 0))))⟩] false [] k38)
     (.block 0 (.loop v38L0)))
    (.seq (.region [⟨some 86, none, .mv (.t 5)⟩,
       ⟨some 87, none, .mv (.t 6)⟩,
       ⟨some 88, none, .mv (.t 0)⟩,
       ⟨some 89, none, .len (.t 88)⟩,
       ⟨some 90, none, .bin .gtr (.t 89) (.c (.d (.lit (.int .i64 0))))⟩,
       ⟨some 91, none, .mv (.t 90)⟩,
       ⟨some 92, some (5, true), .mv (.t 5)⟩,
       ⟨some 93, some (5, true), .mv (.t 0)⟩,
       ⟨some 94, some (5, true), .len (.t 93)⟩,
       ⟨some 95, some (5, true), .bin .sub (.t 94) (.c (.d (.lit (.int .i64 1))))⟩,
       ⟨some 96, some (5, true), .ia 1 (.t 92) (.t 95)⟩,
       ⟨some 97, some (5, true), .load 1 false (.t 96)⟩,
       ⟨some 98, some (5, true), .mv (.t 0)⟩,
       ⟨some 99, some (5, true), .len (.t 98)⟩,
       ⟨some 100, some (5, true), .bin .eql (.t 97) (.t 99)⟩,
       ⟨some 101, none, .pick (.t 91) (.t 100) (.c (.d (.lit (.bool false))))⟩,
       ⟨some 2, none, .mv (.t 86)⟩,
       ⟨some 3, none, .mv (.t 87)⟩,
       ⟨some 4, none, .mv (.t 101)⟩] true [[], [], [], [2], [3, 2], [4, 3, 2], [5, 4, 3, 2], [5, 4, 3, 2], [7, 5, 4, 3, 2], [8, 7, 5, 4, 3, 2], [6, 5, 4, 3, 2, 9, 8, 7], [10, 6, 5, 4, 3, 2, 9, 8, 7], [5, 4, 3, 2], [12, 5, 4, 3, 2], [11, 10, 6, 5, 4, 3, 2, 9, 8, 7, 13, 12], [5, 4, 3, 2, 14, 11, 10, 6, 9, 8, 7, 13, 12], [0, 5, 4, 3, 2], [1, 16, 0, 5, 4, 3, 2], [15, 5, 4, 3, 2, 14, 11, 10, 6, 9, 8, 7, 13, 12, 17, 1, 16, 0]] k38)
     (.ret)))),
 [(2, none), (3, none), (4, none)]⟩
theorem ok38 : FnOk Try.prog 38 v38 := ⟨Try.f38, _, k38, Try.func38, by kernel_rfl, rfl, by kernel_rfl, by kernel_rfl, by kernel_rfl, by kernel_rfl⟩
/-- tailwater/tailwaterref06.Of -/
def k39 : List Nat := [0, 2, 3, 4, 5, 8, 16]
def v39 : VFn := ⟨29,
 .seq (.region [⟨some 2, none, .mv (.c (.d (.lit (.bool false))))⟩,
    ⟨some 3, none, .mv (.c (.d (.lit (.int .i64 0))))⟩,
    ⟨some 4, none, .mv (.c (.d (.lit (.int .i64 0))))⟩] false [] k39)
  (.seq (.seq (.region [⟨some 6, none, .mv (.t 0)⟩,
      ⟨some 7, none, .call 27 [.t 6]⟩,
      ⟨some 8, none, .bin .neq (.t 7) (.c (.d (.lit (.int .i64 0))))⟩] false [] k39)
    (.cond (.t 8)
     (.seq (.region [⟨some 9, none, .mv (.t 0)⟩,
        ⟨some 10, none, .call 27 [.t 9]⟩,
        ⟨some 2, none, .mv (.c (.d (.lit (.bool false))))⟩,
        ⟨some 3, none, .mv (.c (.d (.lit (.int .i64 0))))⟩,
        ⟨some 4, none, .mv (.t 10)⟩] false [] k39)
      (.ret))
     (.skip)))
   (.seq (.seq (.region [⟨some 11, none, .mv (.t 0)⟩,
       ⟨some 12, none, .call 45 [.t 11]⟩,
       ⟨some 5, none, .mv (.t 12)⟩] false [] k39)
     (.seq (.region [⟨some 13, none, .mv (.t 5)⟩,
        ⟨some 14, none, .mv (.t 0)⟩,
        ⟨some 15, none, .len (.t 14)⟩,
        ⟨some 16, none, .bin .lss (.t 13) (.t 15)⟩] false [] k39)
      (.cond (.t 16)
       (.seq (.region [⟨some 17, none, .mv (.t 5)⟩,
          ⟨some 2, none, .mv (.c (.d (.lit (.bool false))))⟩,
          ⟨some 3, none, .mv (.t 17)⟩,
          ⟨some 4, none, .mv (.c (.d (.lit (.int .i64 42))))⟩] false [] k39)
        (.ret))
       (.skip))))
    (.seq (.region [⟨some 18, none, .mv (.t 0)⟩,
       ⟨some 19, none, .mv (.t 0)⟩,
       ⟨some 20, none, .len (.t 19)⟩,
       ⟨some 21, none, .bin .sub (.t 20) (.c (.d (.lit (.int .i64 1))))⟩,
       ⟨some 22, none, .ia 5 (.t 18) (.t 21)⟩,
       ⟨some 23, none, .fa 0 (.t 22)⟩,
       ⟨some 24, none, .load 1 false (.t 23)⟩,
       ⟨some 25, none, .call 46 [.t 24]⟩,
       ⟨some 26, none, .mv (.t 0)⟩,
       ⟨some 27, none, .len (.t 26)⟩,
       ⟨some 28, none, .bin .sub (.t 27) (.c (.d (.lit (.int .i64 1))))⟩,
       ⟨some 2, none, .mv (.t 25)⟩,
       ⟨some 3, none, .mv (.t 28)⟩,
       ⟨some 4, none, .mv (.c (.d (.lit (.int .i64 0))))⟩] false [] k39)
     (.ret)))),
 [(2, none), (3, none), (4, none)]⟩
theorem ok39 : FnOk Try.prog 39 v39 := ⟨Try.f39, _, k39, Try.func39, by kernel_rfl, rfl, by kernel_rfl, by kernel_rfl, by kernel_rfl, by kernel_rfl⟩
/-- tailwater/nodes.tops -/
def k40 : List Nat := [0, 2, 3, 4, 5, 6, 7, 8, 9, 10, 11, 12, 13, 14, 15, 16, 17, 18, 35, 52, 53, 54, 55, 60, 83, 90]
def v40L0 : VCode :=
 .seq (.region [⟨some 55, none, .bin .lss (.t 54) (.t 53)⟩] false [] k40)
  (.seq (.cond (.t 55)
    (.skip)
    (.exit 2))
   (.seq (.block 3 (.seq (.region [⟨some 56, none, .mv (.t 54)⟩,
        ⟨some 57, none, .ia 3 (.t 52) (.t 54)⟩,
        ⟨some 58, none, .load 3 true (.t 57)⟩,
        ⟨some 14, none, .alloc 84 [.d (.lit (.int .i64 0)), .d (.lit (.int .i64 0)), .d (.lit (.int .i64 0))]⟩,
        ⟨some 13, none, .mv (.t 56)⟩,
        ⟨none, none, .store 3 (.t 14) (.t 58)⟩] false [] k40)
      (.seq (.seq (.region [⟨some 59, none, .mv (.t 13)⟩,
          ⟨some 60, none, .bin .eql (.t 59) (.c (.d (.lit (.int .i64 0))))⟩] false [] k40)
        (.cond (.t 60)
         (.region [⟨some 61, none, .fa 0 (.t 14)⟩,
           ⟨some 62, none, .load 1 false (.t 61)⟩,
           ⟨some 63, none, .fa 2 (.t 11)⟩,
           ⟨none, none, .store 1 (.t 63) (.t 62)⟩] false [] k40)
         (.region [⟨some 64, none, .fa 0 (.t 14)⟩,
           ⟨some 65, none, .load 1 false (.t 64)⟩,
           ⟨some 66, none, .fa 3 (.t 11)⟩,
           ⟨none, none, .store 1 (.t 66) (.t 65)⟩] false [] k40)))
       (.seq (.region [⟨some 67, none, .fa 1 (.t 12)⟩,
          ⟨some 68, none, .load 1 false (.t 67)⟩,
          ⟨some 69, none, .fa 1 (.t 14)⟩,
          ⟨some 70, none, .load 1 false (.t 69)⟩,
          ⟨some 71, none, .bin .add (.t 68) (.t 70)⟩,
          ⟨some 72, none, .fa 1 (.t 12)⟩,
          ⟨none, none, .store 1 (.t 72) (.t 71)⟩] false [] k40)
        (.region [⟨some 73, none, .fa 2 (.t 12)⟩,
          ⟨some 74, none, .load 1 false (.t 73)⟩,
          ⟨some 75, none, .fa 2 (.t 14)⟩,
          ⟨some 76, none, .load 1 false (.t 75)⟩,
          ⟨some 77, none, .bin .add (.t 76) (.c (.d (.lit (.int .i64 1))))⟩,
          ⟨some 78, none, .mx [.t 74, .t 77]⟩,
          ⟨some 79, none, .fa 2 (.t 12)⟩,
          ⟨none, none, .store 1 (.t 79) (.t 78)⟩] false [] k40)))))
    (.region [⟨some 80, none, .bin .add (.t 54) (.c (.d (.lit (.int .i64 1))))⟩,
      ⟨some 54, none, .mv (.t 80)⟩] false [] k40)))
def v40L1 : VCode :=
 .seq (.region [⟨some 18, none, .bin .lss (.t 17) (.t 16)⟩] false [] k40)
  (.seq (.cond (.t 18)
    (.skip)
    (.exit 0))
   (.seq (.block 1 (.seq (.region [⟨some 19, none, .mv (.t 17)⟩,
        ⟨some 20, none, .ia 5 (.t 15) (.t 17)⟩,
        ⟨some 21, none, .load 5 true (.t 20)⟩,
        ⟨some 7, none, .alloc 61 [.d (.lit (.int .u8 0)), .d (.lit (.int .i64 0)), .d (.lit (.int .i64 0)), .d (.lit (.int .i64 0)), .d (.lit (.int .i64 0))]⟩,
        ⟨some 6, none, .mv (.t 19)⟩,
        ⟨none, none, .store 5 (.t 7) (.t 21)⟩] false [] k40)
      (.seq (.region [⟨some 23, none, .fa 0 (.t 7)⟩,
         ⟨some 24, none, .load 1 false (.t 23)⟩,
         ⟨some 25, none, .call 47 [.t 24]⟩,
         ⟨some 22, none, .mv (.t 25)⟩,
         ⟨some 26, none, .ext (.t 22) 0⟩,
         ⟨some 27, none, .ext (.t 22) 1⟩,
         ⟨some 8, none, .mv (.t 26)⟩,
         ⟨some 9, none, .mv (.t 27)⟩] false [] k40)
       (.seq (.seq (.region [⟨some 28, none, .mv (.t 9)⟩,
           ⟨some 29, none, .bin .neq (.t 28) (.c (.d (.lit (.int .i64 0))))⟩,
           ⟨some 30, none, .mv (.t 29)⟩,
           ⟨some 31, some (2, false), .mv (.t 8)⟩,
           ⟨some 32, some (2, false), .mv (.t 5)⟩,
           ⟨some 33, some (2, false), .len (.t 32)⟩,
           ⟨some 34, some (2, false), .bin .gtr (.t 31) (.t 33)⟩,
           ⟨some 35, none, .pick (.t 30) (.c (.d (.lit (.bool true)))) (.t 34)⟩] false [] k40)
         (.cond (.t 35)
          (.seq (.region [⟨some 36, none, .mv (.t 4)⟩,
             ⟨some 2, none, .mv (.t 36)⟩,
             ⟨some 3, none, .mv (.c (.d (.lit (.bool false))))⟩] false [] k40)
           (.ret))
          (.skip)))
        (.seq (.region [⟨some 10, none, .mv (.c (.nilS))⟩] false [] k40)
         (.seq (.region [⟨some 38, none, .mv (.t 5)⟩,
            ⟨some 39, none, .mv (.t 8)⟩,
            ⟨some 40, none, .call 48 [.t 38, .t 39]⟩,
            ⟨some 37, none, .mv (.t 40)⟩,
            ⟨some 41, none, .ext (.t 37) 0⟩,
            ⟨some 42, none, .ext (.t 37) 1⟩,
            ⟨some 5, none, .mv (.t 41)⟩,
            ⟨some 10, none, .mv (.t 42)⟩] false [] k40)
          (.seq (.region [⟨some 43, none, .fa 0 (.t 7)⟩,
             ⟨some 44, none, .load 1 false (.t 43)⟩,
             ⟨some 45, none, .fa 4 (.t 7)⟩,
             ⟨some 46, none, .load 1 false (.t 45)⟩,
             ⟨some 47, none, .mx [.t 46, .c (.d (.lit (.int .i64 0)))]⟩,
             ⟨some 48, none, .mn [.t 47, .c (.d (.lit (.int .i64 400)))]⟩,
             ⟨some 49, none, .build [.d (.lit (.int .u8 0)), .d (.lit (.int .i64 0)), .d (.lit (.int .i64 0)), .d (.lit (.int .i64 0)), .d (.lit (.int .i64 0))] [(0, 1, .t 44), (4, 1, .t 48)]⟩,
             ⟨some 11, none, .alloc 61 [.d (.lit (.int .u8 0)), .d (.lit (.int .i64 0)), .d (.lit (.int .i64 0)), .d (.lit (.int .i64 0)), .d (.lit (.int .i64 0))]⟩,
             ⟨none, none, .store 5 (.t 11) (.t 49)⟩] false [] k40)
           (.seq (.region [⟨some 50, none, .mv (.t 6)⟩,
              ⟨some 51, none, .build [.d (.lit (.int .i64 0)), .d (.lit (.int .i64 0)), .d (.lit (.int .i64 0))] [(0, 1, .t 50), (1, 1, .c (.d (.lit (.int .i64 1)))), (2, 1, .c (.d (.lit (.int .i64 1))))]⟩,
              ⟨some 12, none, .alloc 84 [.d (.lit (.int .i64 0)), .d (.lit (.int .i64 0)), .d (.lit (.int .i64 0))]⟩,
              ⟨none, none, .store 3 (.t 12) (.t 51)⟩] false [] k40)
            (.seq (.seq (.region [⟨some 52, none, .mv (.t 10)⟩,
                ⟨some 53, none, .len (.t 52)⟩,
                ⟨some 54, none, .mv (.c (.d (.lit (.int .i64 0))))⟩] false [] k40)
              (.block 2 (.loop v40L0)))
             (.seq (.seq (.region [⟨some 81, none, .fa 0 (.t 7)⟩,
                 ⟨some 82, none, .load 1 false (.t 81)⟩,
                 ⟨some 83, none, .bin .eql (.t 82) (.c (.d (.lit (.int .u8 1))))⟩] false [] k40)
               (.cond (.t 83)
                (.region [⟨some 84, none, .fa 1 (.t 7)⟩,
                  ⟨some 85, none, .load 1 false (.t 84)⟩,
                  ⟨some 86, none, .mx [.t 85, .c (.d (.lit (.int .i64 0)))]⟩,
                  ⟨some 87, none, .fa 1 (.t 11)⟩,
                  ⟨none, none, .store 1 (.t 87) (.t 86)⟩] false [] k40)
                (.skip)))
              (.seq (.seq (.region [⟨some 88, none, .load 5 true (.t 11)⟩,
                  ⟨some 89, none, .load 5 true (.t 7)⟩,
                  ⟨some 90, none, .eqa true [1, 1, 1, 1, 1] (.t 88) (.t 89)⟩] false [] k40)
                (.cond (.t 90)
                 (.seq (.region [⟨some 91, none, .mv (.t 4)⟩,
                    ⟨some 2, none, .mv (.t 91)⟩,
                    ⟨some 3, none, .mv (.c (.d (.lit (.bool false))))⟩] false [] k40)
                  (.ret))
                 (.skip)))
               (.seq (.region [⟨some 92, none, .mv (.t 5)⟩,
                  ⟨some 93, none, .load 3 true (.t 12)⟩,
                  ⟨some 94, none, .bslice 84 3 [.d (.lit (.int .i64 0)), .d (.lit (.int .i64 0)), .d (.lit (.int .i64 0))] 1 [(0, .t 93)]⟩,
                  ⟨some 95, none, .app 84 3 24 (.t 92) (.t 94)⟩,
                  ⟨some 5, none, .mv (.t 95)⟩] false [] k40)
                (.region [⟨some 96, none, .mv (.t 4)⟩,
                  ⟨some 97, none, .load 3 true (.t 12)⟩,
                  ⟨some 98, none, .bslice 84 3 [.d (.lit (.int .i64 0)), .d (.lit (.int .i64 0)), .d (.lit (.int .i64 0))] 1 [(0, .t 97)]⟩,
                  ⟨some 99, none, .app 84 3 24 (.t 96) (.t 98)⟩,
                  ⟨some 4, none, .mv (.t 99)⟩] false [] k40)))))))))))))
    (.region [⟨some 100, none, .bin .add (.t 17) (.c (.d (.lit (.int .i64 1))))⟩,
      ⟨some 17, none, .mv (.t 100)⟩] false [] k40)))
def v40 : VFn := ⟨105,
 .seq (.region [⟨some 2, none, .mv (.c (.nilS))⟩,
    ⟨some 3, none, .mv (.c (.d (.lit (.bool false))))⟩] false [] k40)
  (.seq (.region [⟨some 4, none, .mv (.c (.nilS))⟩,
     ⟨some 5, none, .mv (.c (.nilS))⟩] false [] k40)
   (.seq (.seq (.region [⟨some 15, none, .mv (.t 0)⟩,
       ⟨some 16, none, .len (.t 15)⟩,
       ⟨some 17, none, .mv (.c (.d (.lit (.int .i64 0))))⟩] false [] k40)
     (.block 0 (.loop v40L1)))
    (.seq (.region [⟨some 101, none, .mv (.t 4)⟩,
       ⟨some 102, none, .mv (.t 5)⟩,
       ⟨some 103, none, .len (.t 102)⟩,
       ⟨some 104, none, .bin .eql (.t 103) (.c (.d (.lit (.int .i64 1))))⟩,
       ⟨some 2, none, .mv (.t 101)⟩,
       ⟨some 3, none, .mv (.t 104)⟩] false [] k40)
     (.ret)))),
 [(2, none), (3, none)]⟩
theorem ok40 : FnOk Try.prog 40 v40 := ⟨Try.f40, _, k40, Try.func40, by kernel_rfl, rfl, by kernel_rfl, by kernel_rfl, by kernel_rfl, by kernel_rfl⟩
/-- slices.IndexFunc[[]int,int] -/
def k41 : List Nat := [0, 1, 4, 5, 7, 8, 9, 16]
def v41L0 : VCode :=
 .seq (.region [⟨some 9, none, .bin .lss (.t 8) (.t 7)⟩] false [] k41)
  (.seq (.cond (.t 9)
    (.skip)
    (.exit 0))
   (.seq (.block 1 (.seq (.region [⟨some 10, none, .mv (.t 8)⟩,
        ⟨some 5, none, .mv (.t 10)⟩] false [] k41)
      (.seq (.region [⟨some 11, none, .mv (.t 1)⟩,
         ⟨some 12, none, .mv (.t 0)⟩,
         ⟨some 13, none, .mv (.t 5)⟩,
         ⟨some 14, none, .ia 1 (.t 12) (.t 13)⟩,
         ⟨some 15, none, .load 1 false (.t 14)⟩,
         ⟨some 16, none, .callv (.t 11) [.t 15]⟩] false [] k41)
       (.cond (.t 16)
        (.seq (.region [⟨some 17, none, .mv (.t 5)⟩,
           ⟨some 4, none, .mv (.t 17)⟩] false [] k41)
         (.ret))
        (.skip)))))
    (.region [⟨some 18, none, .bin .add (.t 8) (.c (.d (.lit (.int .i64 1))))⟩,
      ⟨some 8, none, .mv (.t 18)⟩] false [] k41)))
def v41 : VFn := ⟨19,
 .seq (.region [⟨some 4, none, .mv (.c (.d (.lit (.int .i64 0))))⟩] false [] k41)
  (.seq (.seq (.region [⟨some 6, none, .mv (.t 0)⟩,
      ⟨some 7, none, .len (.t 6)⟩,
      ⟨some 8, none, .mv (.c (.d (.lit (.int .i64 0))))⟩] false [] k41)
    (.block 0 (.loop v41L0)))
   (.seq (.region [⟨some 4, none, .mv (.c (.d (.lit (.int .i64 (-1)))))⟩] false [] k41)
    (.ret))),
 [(4, none)]⟩
theorem ok41 : FnOk Try.prog 41 v41 := ⟨Try.f41, _, k41, Try.func41, by kernel_rfl, rfl, by kernel_rfl, by kernel_rfl, by kernel_rfl, by kernel_rfl⟩
/-- tailwater/kinds.told -/
def k42 : List Nat := [0, 2, 3, 4, 5, 6, 7, 8, 9, 10, 12, 13, 14, 15, 25, 32, 39, 46, 51, 56, 78]
def v42L0 : VCode :=
 .seq (.region [⟨some 15, none, .bin .lss (.t 14) (.t 13)⟩] false [] k42)
  (.seq (.cond (.t 15)
    (.skip)
    (.exit 0))
   (.seq (.block 1 (.seq (.region [⟨some 16, none, .mv (.t 14)⟩,
        ⟨some 17, none, .ia 5 (.t 12) (.t 14)⟩,
        ⟨some 18, none, .load 5 true (.t 17)⟩,
        ⟨some 7, none, .alloc 61 [.d (.lit (.int .u8 0)), .d (.lit (.int .i64 0)), .d (.lit (.int .i64 0)), .d (.lit (.int .i64 0)), .d (.lit (.int .i64 0))]⟩,
        ⟨some 6, none, .mv (.t 16)⟩,
        ⟨none, none, .store 5 (.t 7) (.t 18)⟩] false [] k42)
      (.seq (.region [⟨some 8, none, .alloc 97 [.d (.lit (.bool false)), .d (.lit (.bool false))]⟩] false [] k42)
       (.seq (.region [⟨some 9, none, .mv (.c (.d (.lit (.bool true))))⟩] false [] k42)
        (.seq (.region [⟨some 19, none, .fa 2 (.t 7)⟩,
           ⟨some 20, none, .load 1 false (.t 19)⟩,
           ⟨some 21, none, .fa 3 (.t 7)⟩,
           ⟨some 22, none, .load 1 false (.t 21)⟩,
           ⟨some 23, none, .bslice 3 1 [.d (.lit (.int .i64 0))] 2 [(0, .t 20), (1, .t 22)]⟩,
           ⟨some 10, none, .mv (.t 23)⟩] false [] k42)
         (.seq (.block 2 (.seq (.region [⟨some 26, none, .fa 0 (.t 7)⟩,
              ⟨some 27, none, .load 1 false (.t 26)⟩,
              ⟨some 28, none, .bin .leq (.t 27) (.c (.d (.lit (.int .u8 4))))⟩,
              ⟨some 25, none, .mv (.t 28)⟩] false [] k42)
            (.cond (.t 25)
             (.seq (.region [⟨some 29, none, .load 1 false (.t 4)⟩,
                ⟨some 30, none, .bslice 4 1 [.d (.lit (.bool false))] 1 [(0, .c (.d (.lit (.bool false))))]⟩,
                ⟨some 31, none, .app 4 1 1 (.t 29) (.t 30)⟩,
                ⟨none, none, .store 1 (.t 4) (.t 31)⟩] false [] k42)
              (.exit 1))
             (.seq (.region [⟨some 33, none, .fa 0 (.t 7)⟩,
                ⟨some 34, none, .load 1 false (.t 33)⟩,
                ⟨some 35, none, .bin .eql (.t 34) (.c (.d (.lit (.int .u8 5))))⟩,
                ⟨some 32, none, .mv (.t 35)⟩] false [] k42)
              (.cond (.t 32)
               (.region [⟨some 36, none, .build [.d (.lit (.bool false)), .d (.lit (.bool false))] [(0, 1, .c (.d (.lit (.bool true)))), (1, 1, .c (.d (.lit (.bool false))))]⟩,
                 ⟨some 37, none, .mv (.t 10)⟩,
                 ⟨some 38, none, .slc 1 (.t 37) none (some (.c (.d (.lit (.int .i64 1))))) none⟩,
                 ⟨none, none, .store 2 (.t 8) (.t 36)⟩,
                 ⟨some 9, none, .mv (.c (.d (.lit (.bool false))))⟩,
                 ⟨some 10, none, .mv (.t 38)⟩] true [[], [], [1], [0], [3, 0], [2, 1, 4, 3, 0]] k42)
               (.seq (.region [⟨some 40, none, .fa 0 (.t 7)⟩,
                  ⟨some 41, none, .load 1 false (.t 40)⟩,
                  ⟨some 42, none, .bin .eql (.t 41) (.c (.d (.lit (.int .u8 6))))⟩,
                  ⟨some 39, none, .mv (.t 42)⟩] false [] k42)
                (.cond (.t 39)
                 (.region [⟨some 43, none, .build [.d (.lit (.bool false)), .d (.lit (.bool false))] [(0, 1, .c (.d (.lit (.bool false)))), (1, 1, .c (.d (.lit (.bool true))))]⟩,
                   ⟨some 44, none, .mv (.t 10)⟩,
                   ⟨some 45, none, .slc 1 (.t 44) none (some (.c (.d (.lit (.int .i64 1))))) none⟩,
                   ⟨none, none, .store 2 (.t 8) (.t 43)⟩,
                   ⟨some 10, none, .mv (.t 45)⟩] true [[], [], [1], [0], [2, 1, 3, 0]] k42)
                 (.seq (.region [⟨some 47, none, .fa 0 (.t 7)⟩,
                    ⟨some 48, none, .load 1 false (.t 47)⟩,
                    ⟨some 49, none, .bin .leq (.t 48) (.c (.d (.lit (.int .u8 11))))⟩,
                    ⟨some 46, none, .mv (.t 49)⟩] false [] k42)
                  (.cond (.t 46)
                   (.region [⟨some 50, none, .build [.d (.lit (.bool false)), .d (.lit (.bool false))] [(0, 1, .c (.d (.lit (.bool true)))), (1, 1, .c (.d (.lit (.bool false))))]⟩,
                     ⟨none, none, .store 2 (.t 8) (.t 50)⟩,
                     ⟨some 9, none, .mv (.c (.d (.lit (.bool false))))⟩] false [] k42)
                   (.seq (.region [⟨some 52, none, .fa 0 (.t 7)⟩,
                      ⟨some 53, none, .load 1 false (.t 52)⟩,
                      ⟨some 54, none, .bin .leq (.t 53) (.c (.d (.lit (.int .u8 15))))⟩,
                      ⟨some 51, none, .mv (.t 54)⟩] false [] k42)
                    (.cond (.t 51)
                     (.region [⟨some 55, none, .build [.d (.lit (.bool false)), .d (.lit (.bool false))] [(0, 1, .c (.d (.lit (.bool true)))), (1, 1, .c (.d (.lit (.bool false))))]⟩,
                       ⟨none, none, .store 2 (.t 8) (.t 55)⟩] false [] k42)
                     (.seq (.region [⟨some 57, none, .fa 0 (.t 7)⟩,
                        ⟨some 58, none, .load 1 false (.t 57)⟩,
                        ⟨some 59, none, .bin .leq (.t 58) (.c (.d (.lit (.int .u8 17))))⟩,
                        ⟨some 56, none, .mv (.t 59)⟩] false [] k42)
                      (.cond (.t 56)
                       (.region [⟨some 60, none, .build [.d (.lit (.bool false)), .d (.lit (.bool false))] [(0, 1, .c (.d (.lit (.bool true)))), (1, 1, .c (.d (.lit (.bool true))))]⟩,
                         ⟨none, none, .store 2 (.t 8) (.t 60)⟩] false [] k42)
                       (.region [⟨some 24, none, .build [.d (.lit (.bool false)), .d (.lit (.bool false))] [(0, 1, .c (.d (.lit (.bool false)))), (1, 1, .c (.d (.lit (.bool true))))]⟩,
                         ⟨none, none, .store 2 (.t 8) (.t 24)⟩] false [] k42))))))))))))))
          (.seq (.seq (.region [⟨some 61, none, .iarr 2 1 (.t 8) (.c (.d (.lit (.int .i64 0))))⟩,
              ⟨some 62, none, .load 1 false (.t 61)⟩,
              ⟨some 63, none, .mv (.t 62)⟩,
              ⟨some 64, some (2, true), .mv (.t 5)⟩,
              ⟨some 65, some (2, true), .mv (.t 10)⟩,
              ⟨some 66, some (2, true), .callv (.t 64) [.c (.d (.lit (.bool false))), .t 65]⟩,
              ⟨some 67, none, .pick (.t 63) (.t 66) (.c (.d (.lit (.bool false))))⟩,
              ⟨some 68, none, .un .not (.t 67)⟩,
              ⟨some 69, none, .mv (.t 68)⟩,
              ⟨some 70, some (8, true), .iarr 2 1 (.t 8) (.c (.d (.lit (.int .i64 1))))⟩,
              ⟨some 71, some (8, true), .load 1 false (.t 70)⟩,
              ⟨some 72, some (8, true), .mv (.t 71)⟩,
              ⟨some 73, some (11, true), .mv (.t 5)⟩,
              ⟨some 74, some (11, true), .mv (.t 10)⟩,
              ⟨some 75, some (11, true), .callv (.t 73) [.c (.d (.lit (.bool true))), .t 74]⟩,
              ⟨some 76, some (8, true), .pick (.t 72) (.t 75) (.c (.d (.lit (.bool false))))⟩,
              ⟨some 77, some (8, true), .un .not (.t 76)⟩,
              ⟨some 78, none, .pick (.t 69) (.t 77) (.c (.d (.lit (.bool false))))⟩] false [] k42)
            (.cond (.t 78)
             (.seq (.region [⟨some 79, none, .mv (.t 6)⟩,
                ⟨some 2, none, .mv (.c (.nilS))⟩,
                ⟨some 3, none, .mv (.t 79)⟩] false [] k42)
              (.ret))
             (.skip)))
           (.region [⟨some 80, none, .load 1 false (.t 4)⟩,
             ⟨some 81, none, .mv (.t 9)⟩,
             ⟨some 82, none, .bslice 4 1 [.d (.lit (.bool false))] 1 [(0, .t 81)]⟩,
             ⟨some 83, none, .app 4 1 1 (.t 80) (.t 82)⟩,
             ⟨none, none, .store 1 (.t 4) (.t 83)⟩] false [] k42))))))))
    (.region [⟨some 84, none, .bin .add (.t 14) (.c (.d (.lit (.int .i64 1))))⟩,
      ⟨some 14, none, .mv (.t 84)⟩] false [] k42)))
def v42 : VFn := ⟨88,
 .seq (.region [⟨some 2, none, .mv (.c (.nilS))⟩,
    ⟨some 3, none, .mv (.c (.d (.lit (.int .i64 0))))⟩] false [] k42)
  (.seq (.region [⟨some 4, none, .alloc 87 [.nilS]⟩] false [] k42)
   (.seq (.region [⟨some 11, none, .mkf 49 [.t 4]⟩,
      ⟨some 5, none, .mv (.t 11)⟩] false [] k42)
    (.seq (.skip)
     (.seq (.seq (.region [⟨some 12, none, .mv (.t 0)⟩,
         ⟨some 13, none, .len (.t 12)⟩,
         ⟨some 14, none, .mv (.c (.d (.lit (.int .i64 0))))⟩] false [] k42)
       (.block 0 (.loop v42L0)))
      (.seq (.region [⟨some 85, none, .load 1 false (.t 4)⟩,
         ⟨some 86, none, .mv (.t 0)⟩,
         ⟨some 87, none, .len (.t 86)⟩,
         ⟨some 2, none, .mv (.t 85)⟩,
         ⟨some 3, none, .mv (.t 87)⟩] false [] k42)
       (.ret)))))),
 [(2, none), (3, none)]⟩
theorem ok42 : FnOk Try.prog 42 v42 := ⟨Try.f42, _, k42, Try.func42, by kernel_rfl, rfl, by kernel_rfl, by kernel_rfl, by kernel_rfl, by kernel_rfl⟩
/-- tailwater/tailwaterref04.Count -/
def k43 : List Nat := [0, 2, 4, 6]
def v43 : VFn := ⟨7,
 .seq (.region [⟨some 2, none, .mv (.c (.d (.lit (.int .i64 0))))⟩] false [] k43)
  (.seq (.seq (.region [⟨some 3, none, .mv (.t 0)⟩,
      ⟨some 4, none, .bin .leq (.t 3) (.c (.d (.lit (.int .u8 4))))⟩] false [] k43)
    (.cond (.t 4)
     (.seq (.region [⟨some 2, none, .mv (.c (.d (.lit (.int .i64 0))))⟩] false [] k43)
      (.ret))
     (.skip)))
   (.seq (.seq (.region [⟨some 5, none, .mv (.t 0)⟩,
       ⟨some 6, none, .bin .leq (.t 5) (.c (.d (.lit (.int .u8 6))))⟩] false [] k43)
     (.cond (.t 6)
      (.seq (.region [⟨some 2, none, .mv (.c (.d (.lit (.int .i64 1))))⟩] false [] k43)
       (.ret))
      (.skip)))
    (.seq (.region [⟨some 2, none, .mv (.c (.d (.lit (.int .i64 2))))⟩] false [] k43)
     (.ret)))),
 [(2, none)]⟩
theorem ok43 : FnOk Try.prog 43 v43 := ⟨Try.f43, _, k43, Try.func43, by kernel_rfl, rfl, by kernel_rfl, by kernel_rfl, by kernel_rfl, by kernel_rfl⟩
/-- tailwater/tailwaterref04.right -/
def k44 : List Nat := [0, 1, 2, 3, 6]
def v44 : VFn := ⟨52,
 .seq (.region [⟨some 3, none, .box 61 5 (.t 0)⟩,
    ⟨some 6, none, .mv (.c (.d (.lit (.bool false))))⟩] false [] k44)
  (.seq (.region [⟨some 7, none, .fa 0 (.t 3)⟩,
     ⟨some 8, none, .load 1 false (.t 7)⟩,
     ⟨some 9, none, .bin .geq (.t 8) (.c (.d (.lit (.int .u8 1))))⟩,
     ⟨some 10, none, .mv (.t 9)⟩,
     ⟨some 11, some (3, true), .fa 0 (.t 3)⟩,
     ⟨some 12, some (3, true), .load 1 false (.t 11)⟩,
     ⟨some 13, some (3, true), .bin .leq (.t 12) (.c (.d (.lit (.int .u8 19))))⟩,
     ⟨some 14, none, .pick (.t 10) (.t 13) (.c (.d (.lit (.bool false))))⟩,
     ⟨some 15, none, .mv (.t 14)⟩,
     ⟨some 16, some (8, true), .fa 1 (.t 3)⟩,
     ⟨some 17, some (8, true), .load 1 false (.t 16)⟩,
     ⟨some 18, some (8, true), .bin .geq (.t 17) (.c (.d (.lit (.int .i64 0))))⟩,
     ⟨some 19, none, .pick (.t 15) (.t 18) (.c (.d (.lit (.bool false))))⟩,
     ⟨some 20, none, .mv (.t 19)⟩,
     ⟨some 21, some (13, true), .fa 1 (.t 3)⟩,
     ⟨some 22, some (13, true), .load 1 false (.t 21)⟩,
     ⟨some 23, some (13, true), .bin .eql (.t 22) (.c (.d (.lit (.int .i64 0))))⟩,
     ⟨some 24, some (13, true), .mv (.t 23)⟩,
     ⟨some 25, some (17, false), .fa 0 (.t 3)⟩,
     ⟨some 26, some (17, false), .load 1 false (.t 25)⟩,
     ⟨some 27, some (17, false), .bin .eql (.t 26) (.c (.d (.lit (.int .u8 1))))⟩,
     ⟨some 28, some (13, true), .pick (.t 24) (.c (.d (.lit (.bool true)))) (.t 27)⟩,
     ⟨some 29, none, .pick (.t 20) (.t 28) (.c (.d (.lit (.bool false))))⟩,
     ⟨some 30, none, .mv (.t 29)⟩,
     ⟨some 31, some (23, true), .fa 4 (.t 3)⟩,
     ⟨some 32, some (23, true), .load 1 false (.t 31)⟩,
     ⟨some 33, some (23, true), .bin .geq (.t 32) (.c (.d (.lit (.int .i64 0))))⟩,
     ⟨some 34, none, .pick (.t 30) (.t 33) (.c (.d (.lit (.bool false))))⟩,
     ⟨some 35, none, .mv (.t 34)⟩,
     ⟨some 36, some (28, true), .fa 4 (.t 3)⟩,
     ⟨some 37, some (28, true), .load 1 false (.t 36)⟩,
     ⟨some 38, some (28, true), .bin .leq (.t 37) (.c (.d (.lit (.int .i64 400))))⟩,
     ⟨some 39, none, .pick (.t 35) (.t 38) (.c (.d (.lit (.bool false))))⟩,
     ⟨some 40, none, .mv (.t 39)⟩,
     ⟨some 41, some (33, true), .fa 2 (.t 3)⟩,
     ⟨some 42, some (33, true), .load 1 false (.t 41)⟩,
     ⟨some 43, some (33, true), .mv (.t 1)⟩,
     ⟨some 44, some (33, true), .bin .eql (.t 42) (.t 43)⟩,
     ⟨some 45, none, .pick (.t 40) (.t 44) (.c (.d (.lit (.bool false))))⟩,
     ⟨some 46, none, .mv (.t 45)⟩,
     ⟨some 47, some (39, true), .fa 3 (.t 3)⟩,
     ⟨some 48, some (39, true), .load 1 false (.t 47)⟩,
     ⟨some 49, some (39, true), .mv (.t 2)⟩,
     ⟨some 50, some (39, true), .bin .eql (.t 48) (.t 49)⟩,
     ⟨some 51, none, .pick (.t 46) (.t 50) (.c (.d (.lit (.bool false))))⟩,
     ⟨some 6, none, .mv (.t 51)⟩] false [] k44)
   (.ret)),
 [(6, none)]⟩
theorem ok44 : FnOk Try.prog 44 v44 := ⟨Try.f44, _, k44, Try.func44, by kernel_rfl, rfl, by kernel_rfl, by kernel_rfl, by kernel_rfl, by kernel_rfl⟩
/-- tailwater/tailwaterref06.Wrong -/
def k45 : List Nat := [0, 2, 3, 7, 13]
def v45L0 : VCode :=
 .seq (.seq (.region [⟨some 4, none, .mv (.t 3)⟩,
     ⟨some 5, none, .mv (.t 0)⟩,
     ⟨some 6, none, .len (.t 5)⟩,
     ⟨some 7, none, .bin .lss (.t 4) (.t 6)⟩] false [] k45)
   (.cond (.t 7)
    (.skip)
    (.exit 0)))
  (.seq (.block 1 (.seq (.region [⟨some 10, none, .mv (.t 0)⟩,
       ⟨some 11, none, .mv (.t 3)⟩,
       ⟨some 12, none, .call 50 [.t 10, .t 11]⟩,
       ⟨some 13, none, .un .not (.t 12)⟩] false [] k45)
     (.cond (.t 13)
      (.seq (.region [⟨some 14, none, .mv (.t 3)⟩,
         ⟨some 2, none, .mv (.t 14)⟩] false [] k45)
       (.ret))
      (.skip))))
   (.region [⟨some 8, none, .mv (.t 3)⟩,
     ⟨some 9, none, .bin .add (.t 8) (.c (.d (.lit (.int .i64 1))))⟩,
     ⟨some 3, none, .mv (.t 9)⟩] false [] k45))
def v45 : VFn := ⟨17,
 .seq (.region [⟨some 2, none, .mv (.c (.d (.lit (.int .i64 0))))⟩] false [] k45)
  (.seq (.seq (.region [⟨some 3, none, .mv (.c (.d (.lit (.int .i64 0))))⟩] false [] k45)
    (.block 0 (.loop v45L0)))
   (.seq (.region [⟨some 15, none, .mv (.t 0)⟩,
      ⟨some 16, none, .len (.t 15)⟩,
      ⟨some 2, none, .mv (.t 16)⟩] false [] k45)
    (.ret))),
 [(2, none)]⟩
theorem ok45 : FnOk Try.prog 45 v45 := ⟨Try.f45, _, k45, Try.func45, by kernel_rfl, rfl, by kernel_rfl, by kernel_rfl, by kernel_rfl, by kernel_rfl⟩
/-- tailwater/tailwaterref06.Gives -/
def k46 : List Nat := [0, 2]
def v46 : VFn := ⟨9,
 .seq (.region [⟨some 2, none, .mv (.c (.d (.lit (.bool false))))⟩] false [] [0, 2])
  (.seq (.region [⟨some 3, none, .mv (.t 0)⟩,
     ⟨some 4, none, .bin .eql (.t 3) (.c (.d (.lit (.int .u8 6))))⟩,
     ⟨some 5, none, .mv (.t 4)⟩,
     ⟨some 6, some (2, false), .mv (.t 0)⟩,
     ⟨some 7, some (2, false), .bin .geq (.t 6) (.c (.d (.lit (.int .u8 12))))⟩,
     ⟨some 8, none, .pick (.t 5) (.c (.d (.lit (.bool true)))) (.t 7)⟩,
     ⟨some 2, none, .mv (.t 8)⟩] false [] [0, 2])
   (.ret)),
 [(2, none)]⟩
theorem ok46 : FnOk Try.prog 46 v46 := ⟨Try.f46, _, k46, Try.func46, by kernel_rfl, rfl, by kernel_rfl, by kernel_rfl, by kernel_rfl, by kernel_rfl⟩
/-- tailwater/nodes.Parts -/
def k47 : List Nat := [0, 2, 3, 4, 11, 18]
def v47 : VFn := ⟨25,
 .seq (.region [⟨some 2, none, .mv (.c (.d (.lit (.int .i64 0))))⟩,
    ⟨some 3, none, .mv (.c (.d (.lit (.int .i64 0))))⟩] false [] k47)
  (.seq (.block 0 (.seq (.region [⟨some 5, none, .mv (.t 0)⟩,
       ⟨some 6, none, .bin .geq (.t 5) (.c (.d (.lit (.int .u8 1))))⟩,
       ⟨some 7, none, .mv (.t 6)⟩,
       ⟨some 8, some (2, true), .mv (.t 0)⟩,
       ⟨some 9, some (2, true), .bin .leq (.t 8) (.c (.d (.lit (.int .u8 4))))⟩,
       ⟨some 10, none, .pick (.t 7) (.t 9) (.c (.d (.lit (.bool false))))⟩,
       ⟨some 4, none, .mv (.t 10)⟩] false [] k47)
     (.cond (.t 4)
      (.seq (.region [⟨some 2, none, .mv (.c (.d (.lit (.int .i64 0))))⟩,
         ⟨some 3, none, .mv (.c (.d (.lit (.int .i64 0))))⟩] false [] k47)
       (.ret))
      (.seq (.region [⟨some 12, none, .mv (.t 0)⟩,
         ⟨some 13, none, .bin .eql (.t 12) (.c (.d (.lit (.int .u8 5))))⟩,
         ⟨some 14, none, .mv (.t 13)⟩,
         ⟨some 15, some (2, false), .mv (.t 0)⟩,
         ⟨some 16, some (2, false), .bin .eql (.t 15) (.c (.d (.lit (.int .u8 6))))⟩,
         ⟨some 17, none, .pick (.t 14) (.c (.d (.lit (.bool true)))) (.t 16)⟩,
         ⟨some 11, none, .mv (.t 17)⟩] false [] k47)
       (.cond (.t 11)
        (.seq (.region [⟨some 2, none, .mv (.c (.d (.lit (.int .i64 1))))⟩,
           ⟨some 3, none, .mv (.c (.d (.lit (.int .i64 0))))⟩] false [] k47)
         (.ret))
        (.seq (.region [⟨some 19, none, .mv (.t 0)⟩,
           ⟨some 20, none, .bin .geq (.t 19) (.c (.d (.lit (.int .u8 7))))⟩,
           ⟨some 21, none, .mv (.t 20)⟩,
           ⟨some 22, some (2, true), .mv (.t 0)⟩,
           ⟨some 23, some (2, true), .bin .leq (.t 22) (.c (.d (.lit (.int .u8 19))))⟩,
           ⟨some 24, none, .pick (.t 21) (.t 23) (.c (.d (.lit (.bool false))))⟩,
           ⟨some 18, none, .mv (.t 24)⟩] false [] k47)
         (.cond (.t 18)
          (.seq (.region [⟨some 2, none, .mv (.c (.d (.lit (.int .i64 2))))⟩,
             ⟨some 3, none, .mv (.c (.d (.lit (.int .i64 0))))⟩] false [] k47)
           (.ret))
          (.skip))))))))
   (.seq (.region [⟨some 2, none, .mv (.c (.d (.lit (.int .i64 0))))⟩,
      ⟨some 3, none, .mv (.c (.d (.lit (.int .i64 2))))⟩] false [] k47)
    (.ret))),
 [(2, none), (3, none)]⟩
theorem ok47 : FnOk Try.prog 47 v47 := ⟨Try.f47, _, k47, Try.func47, by kernel_rfl, rfl, by kernel_rfl, by kernel_rfl, by kernel_rfl, by kernel_rfl⟩
/-- tailwater/nodes.pop[tailwater/nodes.top] -/
def k48 : List Nat := [0, 1, 4, 5]
def v48 : VFn := ⟨18,
 .seq (.region [⟨some 4, none, .mv (.c (.nilS))⟩,
    ⟨some 5, none, .mv (.c (.nilS))⟩] false [] k48)
  (.seq (.region [⟨some 6, none, .mv (.t 0)⟩,
     ⟨some 7, none, .mv (.t 0)⟩,
     ⟨some 8, none, .len (.t 7)⟩,
     ⟨some 9, none, .mv (.t 1)⟩,
     ⟨some 10, none, .bin .sub (.t 8) (.t 9)⟩,
     ⟨some 11, none, .slc 3 (.t 6) none (some (.t 10)) none⟩,
     ⟨some 12, none, .mv (.t 0)⟩,
     ⟨some 13, none, .mv (.t 0)⟩,
     ⟨some 14, none, .len (.t 13)⟩,
     ⟨some 15, none, .mv (.t 1)⟩,
     ⟨some 16, none, .bin .sub (.t 14) (.t 15)⟩,
     ⟨some 17, none, .slc 3 (.t 12) (some (.t 16)) none none⟩,
     ⟨some 4, none, .mv (.t 11)⟩,
     ⟨some 5, none, .mv (.t 17)⟩] true [[], [], [1], [], [2, 1, 3], [0, 4, 2, 1, 3], [], [], [7], [], [8, 7, 9], [6, 10, 8, 7, 9], [5, 0, 4, 2, 1, 3], [11, 6, 10, 8, 7, 9, 12, 5, 0, 4, 2, 1, 3]] k48)
   (.ret)),
 [(4, none), (5, none)]⟩
theorem ok48 : FnOk Try.prog 48 v48 := ⟨Try.f48, _, k48, Try.func48, by kernel_rfl, rfl, by kernel_rfl, by kernel_rfl, by kernel_rfl, by kernel_rfl⟩
/-- tailwater/kinds.told$1 -/
def k49 : List Nat := [0, 1, 2, 5, 7, 8, 9, 10, 11, 19]
def v49L0 : VCode :=
 .seq (.region [⟨some 11, none, .bin .lss (.t 10) (.t 9)⟩] false [] k49)
  (.seq (.cond (.t 11)
    (.skip)
    (.exit 0))
   (.seq (.block 1 (.seq (.region [⟨some 12, none, .ia 1 (.t 8) (.t 10)⟩,
        ⟨some 13, none, .load 1 false (.t 12)⟩,
        ⟨some 7, none, .mv (.t 13)⟩] false [] k49)
      (.seq (.region [⟨some 14, none, .load 1 false (.t 2)⟩,
         ⟨some 15, none, .mv (.t 7)⟩,
         ⟨some 16, none, .ia 1 (.t 14) (.t 15)⟩,
         ⟨some 17, none, .load 1 false (.t 16)⟩,
         ⟨some 18, none, .mv (.t 0)⟩,
         ⟨some 19, none, .eqb true (.t 17) (.t 18)⟩] false [] k49)
       (.cond (.t 19)
        (.seq (.region [⟨some 5, none, .mv (.c (.d (.lit (.bool false))))⟩] false [] k49)
         (.ret))
        (.skip)))))
    (.region [⟨some 20, none, .bin .add (.t 10) (.c (.d (.lit (.int .i64 1))))⟩,
      ⟨some 10, none, .mv (.t 20)⟩] false [] k49)))
def v49 : VFn := ⟨21,
 .seq (.region [⟨some 5, none, .mv (.c (.d (.lit (.bool false))))⟩] false [] k49)
  (.seq (.seq (.region [⟨some 8, none, .mv (.t 1)⟩,
      ⟨some 9, none, .len (.t 8)⟩,
      ⟨some 10, none, .mv (.c (.d (.lit (.int .i64 0))))⟩] false [] k49)
    (.block 0 (.loop v49L0)))
   (.seq (.region [⟨some 5, none, .mv (.c (.d (.lit (.bool true))))⟩] false [] k49)
    (.ret))),
 [(5, none)]⟩
theorem ok49 : FnOk Try.prog 49 v49 := ⟨Try.f49, _, k49, Try.func49, by kernel_rfl, rfl, by kernel_rfl, by kernel_rfl, by kernel_rfl, by kernel_rfl⟩
/-- tailwater/tailwaterref06.fits -/
def k50 : List Nat := [0, 1, 4, 5, 6, 7, 26, 30, 36, 41, 53]
def v50 : VFn := ⟨67,
 .seq (.region [⟨some 4, none, .mv (.c (.d (.lit (.bool false))))⟩] false [] k50)
  (.seq (.region [⟨some 8, none, .mv (.t 0)⟩,
     ⟨some 9, none, .mv (.t 1)⟩,
     ⟨some 10, none, .ia 5 (.t 8) (.t 9)⟩,
     ⟨some 11, none, .load 5 true (.t 10)⟩,
     ⟨some 5, none, .alloc 61 [.d (.lit (.int .u8 0)), .d (.lit (.int .i64 0)), .d (.lit (.int .i64 0)), .d (.lit (.int .i64 0)), .d (.lit (.int .i64 0))]⟩,
     ⟨none, none, .store 5 (.t 5) (.t 11)⟩] false [] k50)
   (.seq (.region [⟨some 12, none, .mv (.t 0)⟩,
      ⟨some 13, none, .fa 2 (.t 5)⟩,
      ⟨some 14, none, .load 1 false (.t 13)⟩,
      ⟨some 15, none, .ia 5 (.t 12) (.t 14)⟩,
      ⟨some 16, none, .fa 0 (.t 15)⟩,
      ⟨some 17, none, .load 1 false (.t 16)⟩,
      ⟨some 18, none, .call 46 [.t 17]⟩,
      ⟨some 19, none, .mv (.t 0)⟩,
      ⟨some 20, none, .fa 3 (.t 5)⟩,
      ⟨some 21, none, .load 1 false (.t 20)⟩,
      ⟨some 22, none, .ia 5 (.t 19) (.t 21)⟩,
      ⟨some 23, none, .fa 0 (.t 22)⟩,
      ⟨some 24, none, .load 1 false (.t 23)⟩,
      ⟨some 25, none, .call 46 [.t 24]⟩,
      ⟨some 6, none, .mv (.t 18)⟩,
      ⟨some 7, none, .mv (.t 25)⟩] true [[], [], [1], [0, 2, 1], [3, 0, 2, 1], [4, 3, 0, 2, 1], [5, 4, 3, 0, 2, 1], [], [], [8], [7, 9, 8], [10, 7, 9, 8], [11, 10, 7, 9, 8], [12, 11, 10, 7, 9, 8, 6, 5, 4, 3, 0, 2, 1], [6, 5, 4, 3, 0, 2, 1, 13, 12, 11, 10, 7, 9, 8], [13, 12, 11, 10, 7, 9, 8, 6, 5, 4, 3, 0, 2, 1, 14]] k50)
    (.seq (.block 0 (.seq (.region [⟨some 27, none, .fa 0 (.t 5)⟩,
         ⟨some 28, none, .load 1 false (.t 27)⟩,
         ⟨some 29, none, .bin .leq (.t 28) (.c (.d (.lit (.int .u8 4))))⟩,
         ⟨some 26, none, .mv (.t 29)⟩] false [] k50)
       (.cond (.t 26)
        (.seq (.region [⟨some 4, none, .mv (.c (.d (.lit (.bool true))))⟩] false [] k50)
         (.ret))
        (.seq (.region [⟨some 31, none, .fa 0 (.t 5)⟩,
           ⟨some 32, none, .load 1 false (.t 31)⟩,
           ⟨some 33, none, .bin .eql (.t 32) (.c (.d (.lit (.int .u8 5))))⟩,
           ⟨some 30, none, .mv (.t 33)⟩] false [] k50)
         (.cond (.t 30)
          (.seq (.region [⟨some 34, none, .mv (.t 6)⟩,
             ⟨some 35, none, .un .not (.t 34)⟩,
             ⟨some 4, none, .mv (.t 35)⟩] false [] k50)
           (.ret))
          (.seq (.region [⟨some 37, none, .fa 0 (.t 5)⟩,
             ⟨some 38, none, .load 1 false (.t 37)⟩,
             ⟨some 39, none, .bin .eql (.t 38) (.c (.d (.lit (.int .u8 6))))⟩,
             ⟨some 36, none, .mv (.t 39)⟩] false [] k50)
           (.cond (.t 36)
            (.seq (.region [⟨some 40, none, .mv (.t 6)⟩,
               ⟨some 4, none, .mv (.t 40)⟩] false [] k50)
             (.ret))
            (.seq (.region [⟨some 42, none, .fa 0 (.t 5)⟩,
               ⟨some 43, none, .load 1 false (.t 42)⟩,
               ⟨some 44, none, .bin .eql (.t 43) (.c (.d (.lit (.int .u8 16))))⟩,
               ⟨some 45, none, .mv (.t 44)⟩,
               ⟨some 46, some (3, false), .fa 0 (.t 5)⟩,
               ⟨some 47, some (3, false), .load 1 false (.t 46)⟩,
               ⟨some 48, some (3, false), .bin .eql (.t 47) (.c (.d (.lit (.int .u8 17))))⟩,
               ⟨some 49, none, .pick (.t 45) (.c (.d (.lit (.bool true)))) (.t 48)⟩,
               ⟨some 41, none, .mv (.t 49)⟩] false [] k50)
             (.cond (.t 41)
              (.seq (.region [⟨some 50, none, .mv (.t 6)⟩,
                 ⟨some 51, none, .mv (.t 7)⟩,
                 ⟨some 52, none, .eqb false (.t 50) (.t 51)⟩,
                 ⟨some 4, none, .mv (.t 52)⟩] false [] k50)
               (.ret))
              (.seq (.region [⟨some 54, none, .fa 0 (.t 5)⟩,
                 ⟨some 55, none, .load 1 false (.t 54)⟩,
                 ⟨some 56, none, .bin .geq (.t 55) (.c (.d (.lit (.int .u8 18))))⟩,
                 ⟨some 53, none, .mv (.t 56)⟩] false [] k50)
               (.cond (.t 53)
                (.seq (.region [⟨some 57, none, .mv (.t 6)⟩,
                   ⟨some 58, none, .mv (.t 57)⟩,
                   ⟨some 59, some (1, true), .mv (.t 7)⟩,
                   ⟨some 60, none, .pick (.t 58) (.t 59) (.c (.d (.lit (.bool false))))⟩,
                   ⟨some 4, none, .mv (.t 60)⟩] false [] k50)
                 (.ret))
                (.skip))))))))))))
     (.seq (.region [⟨some 61, none, .mv (.t 6)⟩,
        ⟨some 62, none, .un .not (.t 61)⟩,
        ⟨some 63, none, .mv (.t 62)⟩,
        ⟨some 64, some (2, true), .mv (.t 7)⟩,
        ⟨some 65, some (2, true), .un .not (.t 64)⟩,
        ⟨some 66, none, .pick (.t 63) (.t 65) (.c (.d (.lit (.bool false))))⟩,
        ⟨some 4, none, .mv (.t 66)⟩] false [] k50)
      (.ret))))),
 [(4, none)]⟩
theorem ok50 : FnOk Try.prog 50 v50 := ⟨Try.f50, _, k50, Try.func50, by kernel_rfl, rfl, by kernel_rfl, by kernel_rfl, by kernel_rfl, by kernel_rfl⟩
def tab (f : Nat) : Option VFn :=
  match f with
  | 3 => some v3
  | 4 => some v4
  | 5 => some v5
  | 6 => some v6
  | 7 => some v7
  | 8 => some v8
  | 9 => some v9
  | 10 => some v10
  | 11 => some v11
  | 12 => some v12
  | 13 => some v13
  | 14 => some v14
  | 16 => some v16
  | 17 => some v17
  | 18 => some v18
  | 19 => some v19
  | 20 => some v20
  | 21 => some v21
  | 22 => some v22
  | 24 => some v24
  | 25 => some v25
  | 26 => some v26
  | 27 => some v27
  | 28 => some v28
  | 29 => some v29
  | 30 => some v30
  | 31 => some v31
  | 33 => some v33
  | 34 => some v34
  | 35 => some v35
  | 37 => some v37
  | 38 => some v38
  | 39 => some v39
  | 40 => some v40
  | 41 => some v41
  | 42 => some v42
  | 43 => some v43
  | 44 => some v44
  | 45 => some v45
  | 46 => some v46
  | 47 => some v47
  | 48 => some v48
  | 49 => some v49
  | 50 => some v50
  | _ => none
theorem tab_ok : ∀ f vf, tab f = some vf → FnOk Try.prog f vf := by
  intro f vf h
  unfold tab at h
  split at h
  · obtain rfl := Option.some.inj h; exact ok3
  · obtain rfl := Option.some.inj h; exact ok4
  · obtain rfl := Option.some.inj h; exact ok5
  · obtain rfl := Option.some.inj h; exact ok6
  · obtain rfl := Option.some.inj h; exact ok7
  · obtain rfl := Option.some.inj h; exact ok8
  · obtain rfl := Option.some.inj h; exact ok9
  · obtain rfl := Option.some.inj h; exact ok10
  · obtain rfl := Option.some.inj h; exact ok11
  · obtain rfl := Option.some.inj h; exact ok12
  · obtain rfl := Option.some.inj h; exact ok13
  · obtain rfl := Option.some.inj h; exact ok14
  · obtain rfl := Option.some.inj h; exact ok16
  · obtain rfl := Option.some.inj h; exact ok17
  · obtain rfl := Option.some.inj h; exact ok18
  · obtain rfl := Option.some.inj h; exact ok19
  · obtain rfl := Option.some.inj h; exact ok20
  · obtain rfl := Option.some.inj h; exact ok21
  · obtain rfl := Option.some.inj h; exact ok22
  · obtain rfl := Option.some.inj h; exact ok24
  · obtain rfl := Option.some.inj h; exact ok25
  · obtain rfl := Option.some.inj h; exact ok26
  · obtain rfl := Option.some.inj h; exact ok27
  · obtain rfl := Option.some.inj h; exact ok28
  · obtain rfl := Option.some.inj h; exact ok29
  · obtain rfl := Option.some.inj h; exact ok30
  · obtain rfl := Option.some.inj h; exact ok31
  · obtain rfl := Option.some.inj h; exact ok33
  · obtain rfl := Option.some.inj h; exact ok34
  · obtain rfl := Option.some.inj h; exact ok35
  · obtain rfl := Option.some.inj h; exact ok37
  · obtain rfl := Option.some.inj h; exact ok38
  · obtain rfl := Option.some.inj h; exact ok39
  · obtain rfl := Option.some.inj h; exact ok40
  · obtain rfl := Option.some.inj h; exact ok41
  · obtain rfl := Option.some.inj h; exact ok42
  · obtain rfl := Option.some.inj h; exact ok43
  · obtain rfl := Option.some.inj h; exact ok44
  · obtain rfl := Option.some.inj h; exact ok45
  · obtain rfl := Option.some.inj h; exact ok46
  · obtain rfl := Option.some.inj h; exact ok47
  · obtain rfl := Option.some.inj h; exact ok48
  · obtain rfl := Option.some.inj h; exact ok49
  · obtain rfl := Option.some.inj h; exact ok50
  · cases h
attribute [simp] k3 k4 k5 k6 k7 k8 k9 k10 k11 k12 k13 k14 k16 k17 k18 k19 k20 k21 k22 k24 k25 k26 k27 k28 k29 k30 k31 k33 k34 k35 k37 k38 k39 k40 k41 k42 k43 k44 k45 k46 k47 k48 k49 k50
end Go.Proofs.Ytomeaojdihfgmaa
