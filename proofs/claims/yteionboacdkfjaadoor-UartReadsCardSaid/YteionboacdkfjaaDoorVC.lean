/-
  UART: reads, writes, by the program and by the document: contracts.
-/
import Derived.Test.YteionboacdkfjaaDoorVB
namespace Go.Proofs.YteionboacdkfjaaDoor.X
set_option linter.unusedVariables false

def u0 : Us := ⟨⟨fun _ => 0, 0⟩, ⟨fun _ => 0, 0⟩, 0, 0, 0, 0, 0, 0, false, 0⟩

def wrP (u : Us) (at_ v : Int) : PT (Us × Int) :=
  (.if_ (okU u)
   (.if_ (decide (at_ > 7))
    (.v ((Us.mk (Fi.mk (fun z0 => 0) 0) (Fi.mk (fun z1 => 0) 0) 0 0 0 0 0 0 .false 0), 20))
    (.if_ (at_ == 0)
     (.if_ ((andI .u8 u.lcr 128) != 0)
      (.v ({ u with dll := v }, 0))
      (.if_ (at_ == 0)
       (.if_ (u.tx.n == 16)
        (.v (u, 0))
        (.if_ (inB u.tx.n 16)
         (.if_ (Nat.blt (Int.toNat u.tx.n) 16)
          (.v ({ u with tx := (Fi.mk (fun z2 => (cond (Nat.beq z2 (Int.toNat u.tx.n)) v (u.tx.b z2))) (IntKind.wrap .i64 (u.tx.n + 1))) }, 0))
          .bad)
         .bad))
       (.if_ (at_ == 1)
        (.if_ ((andI .u8 u.lcr 128) != 0)
         (.v ({ u with dlm := v }, 0))
         (.if_ (at_ == 1)
          (.v ({ u with ier := (andI .u8 v 7) }, 0))
          (.if_ (at_ == 2)
           (.if_ ((andI .u8 v 2) != 0)
            (.if_ ((andI .u8 v 4) != 0)
             (.v ({ u with rx := (Fi.mk (fun z3 => 0) 0), tx := (Fi.mk (fun z4 => 0) 0), ov := .false, wt := 0 }, 0))
             (.v ({ u with rx := (Fi.mk (fun z5 => 0) 0), ov := .false }, 0)))
            (.if_ ((andI .u8 v 4) != 0)
             (.v ({ u with tx := (Fi.mk (fun z6 => 0) 0), wt := 0 }, 0))
             (.v (u, 0))))
           (.if_ (at_ == 3)
            (.v ({ u with lcr := v }, 0))
            (.if_ (at_ == 4)
             (.v ({ u with mcr := (andI .u8 v 31) }, 0))
             (.if_ (at_ == 7)
              (.v ({ u with scr := v }, 0))
              (.v (u, 0))))))))
        (.if_ (at_ == 1)
         (.v ({ u with ier := (andI .u8 v 7) }, 0))
         (.if_ (at_ == 2)
          (.if_ ((andI .u8 v 2) != 0)
           (.if_ ((andI .u8 v 4) != 0)
            (.v ({ u with rx := (Fi.mk (fun z7 => 0) 0), tx := (Fi.mk (fun z8 => 0) 0), ov := .false, wt := 0 }, 0))
            (.v ({ u with rx := (Fi.mk (fun z9 => 0) 0), ov := .false }, 0)))
           (.if_ ((andI .u8 v 4) != 0)
            (.v ({ u with tx := (Fi.mk (fun z10 => 0) 0), wt := 0 }, 0))
            (.v (u, 0))))
          (.if_ (at_ == 3)
           (.v ({ u with lcr := v }, 0))
           (.if_ (at_ == 4)
            (.v ({ u with mcr := (andI .u8 v 31) }, 0))
            (.if_ (at_ == 7)
             (.v ({ u with scr := v }, 0))
             (.v (u, 0))))))))))
     (.if_ (at_ == 0)
      (.if_ (u.tx.n == 16)
       (.v (u, 0))
       (.if_ (inB u.tx.n 16)
        (.if_ (Nat.blt (Int.toNat u.tx.n) 16)
         (.v ({ u with tx := (Fi.mk (fun z11 => (cond (Nat.beq z11 (Int.toNat u.tx.n)) v (u.tx.b z11))) (IntKind.wrap .i64 (u.tx.n + 1))) }, 0))
         .bad)
        .bad))
      (.if_ (at_ == 1)
       (.if_ ((andI .u8 u.lcr 128) != 0)
        (.v ({ u with dlm := v }, 0))
        (.if_ (at_ == 1)
         (.v ({ u with ier := (andI .u8 v 7) }, 0))
         (.if_ (at_ == 2)
          (.if_ ((andI .u8 v 2) != 0)
           (.if_ ((andI .u8 v 4) != 0)
            (.v ({ u with rx := (Fi.mk (fun z12 => 0) 0), tx := (Fi.mk (fun z13 => 0) 0), ov := .false, wt := 0 }, 0))
            (.v ({ u with rx := (Fi.mk (fun z14 => 0) 0), ov := .false }, 0)))
           (.if_ ((andI .u8 v 4) != 0)
            (.v ({ u with tx := (Fi.mk (fun z15 => 0) 0), wt := 0 }, 0))
            (.v (u, 0))))
          (.if_ (at_ == 3)
           (.v ({ u with lcr := v }, 0))
           (.if_ (at_ == 4)
            (.v ({ u with mcr := (andI .u8 v 31) }, 0))
            (.if_ (at_ == 7)
             (.v ({ u with scr := v }, 0))
             (.v (u, 0))))))))
       (.if_ (at_ == 1)
        (.v ({ u with ier := (andI .u8 v 7) }, 0))
        (.if_ (at_ == 2)
         (.if_ ((andI .u8 v 2) != 0)
          (.if_ ((andI .u8 v 4) != 0)
           (.v ({ u with rx := (Fi.mk (fun z16 => 0) 0), tx := (Fi.mk (fun z17 => 0) 0), ov := .false, wt := 0 }, 0))
           (.v ({ u with rx := (Fi.mk (fun z18 => 0) 0), ov := .false }, 0)))
          (.if_ ((andI .u8 v 4) != 0)
           (.v ({ u with tx := (Fi.mk (fun z19 => 0) 0), wt := 0 }, 0))
           (.v (u, 0))))
         (.if_ (at_ == 3)
          (.v ({ u with lcr := v }, 0))
          (.if_ (at_ == 4)
           (.v ({ u with mcr := (andI .u8 v 31) }, 0))
           (.if_ (at_ == 7)
            (.v ({ u with scr := v }, 0))
            (.v (u, 0)))))))))))
   (.v ((Us.mk (Fi.mk (fun z20 => 0) 0) (Fi.mk (fun z21 => 0) 0) 0 0 0 0 0 0 .false 0), 1)))

def rwrP (u : Us) (at_ v : Int) : PT (Us × Int) :=
  (.if_ ((cond (okU u) (0 : Int) 1) != 0)
   (.v ((Us.mk (Fi.mk (fun z0 => 0) 0) (Fi.mk (fun z1 => 0) 0) 0 0 0 0 0 0 .false 0), 1))
   (.if_ (at_ == 0)
    (.if_ (decide (u.lcr ≥ 128))
     (.v ({ u with dll := v }, 0))
     (.if_ (decide (0 ≤ u.tx.n))
      (.v ({ u with tx := (cond (decide (u.tx.n > 15)) u.tx (Fi.mk (fun z2 => (cond (Nat.beq z2 (Int.toNat u.tx.n)) v (u.tx.b z2))) (IntKind.wrap .i64 (u.tx.n + 1)))) }, 0))
      .bad))
    (.if_ (at_ == 1)
     (.if_ (decide (u.lcr ≥ 128))
      (.v ({ u with dlm := v }, 0))
      (.v ({ u with ier := (Int.tmod v 8) }, 0)))
     (.if_ (at_ == 2)
      (.if_ ((Int.tmod (IntKind.wrap .u8 (Int.tdiv v 2)) 2) == 1)
       (.if_ ((Int.tmod (IntKind.wrap .u8 (Int.tdiv v 4)) 2) == 1)
        (.v ({ u with rx := (Fi.mk (fun z3 => 0) 0), tx := (Fi.mk (fun z4 => 0) 0), ov := .false, wt := 0 }, 0))
        (.v ({ u with rx := (Fi.mk (fun z5 => 0) 0), ov := .false }, 0)))
       (.if_ ((Int.tmod (IntKind.wrap .u8 (Int.tdiv v 4)) 2) == 1)
        (.v ({ u with tx := (Fi.mk (fun z6 => 0) 0), wt := 0 }, 0))
        (.v (u, 0))))
      (.if_ (at_ == 3)
       (.v ({ u with lcr := v }, 0))
       (.if_ (at_ == 4)
        (.v ({ u with mcr := (Int.tmod v 32) }, 0))
        (.if_ (at_ == 5)
         (.if_ (at_ == 5)
          (.v (u, 0))
          (.if_ (at_ == 7)
           (.v ({ u with scr := v }, 0))
           (.v ((Us.mk (Fi.mk (fun z7 => 0) 0) (Fi.mk (fun z8 => 0) 0) 0 0 0 0 0 0 .false 0), 20))))
         (.if_ (at_ == 6)
          (.v (u, 0))
          (.if_ (at_ == 7)
           (.v ({ u with scr := v }, 0))
           (.v ((Us.mk (Fi.mk (fun z9 => 0) 0) (Fi.mk (fun z10 => 0) 0) 0 0 0 0 0 0 .false 0), 20)))))))))))

def rdP (u : Us) (at_ : Int) : PT (Us × Int × Int) :=
  (.if_ (okU u)
   (.if_ (at_ == 0)
    (.if_ (!((andI .u8 u.lcr 128) != 0))
     (.if_ (u.rx.n == 0)
      (.v (u, 0, 0))
      (.v ({ u with rx := (Fi.mk (fun z0 => (cond (Nat.beq z0 15) 0 (cond (Nat.blt z0 15) (u.rx.b (1 + (z0 - 0))) (u.rx.b z0)))) (IntKind.wrap .i64 (u.rx.n - 1))) }, (u.rx.b 0), 0)))
     (.v (u, u.dll, 0)))
    (.if_ (at_ == 1)
     (.if_ (!((andI .u8 u.lcr 128) != 0))
      (.v (u, u.ier, 0))
      (.v (u, u.dlm, 0)))
     (.if_ (at_ == 2)
      (.if_ u.ov
       (.if_ ((andI .u8 u.ier 4) != 0)
        (.v (u, 198, 0))
        (.if_ (decide (u.rx.n > 0))
         (.if_ ((andI .u8 u.ier 1) != 0)
          (.v (u, 196, 0))
          (.if_ (u.tx.n == 0)
           (.if_ ((andI .u8 u.ier 2) != 0)
            (.v (u, 194, 0))
            (.v (u, 193, 0)))
           (.v (u, 193, 0))))
         (.if_ (u.tx.n == 0)
          (.if_ ((andI .u8 u.ier 2) != 0)
           (.v (u, 194, 0))
           (.v (u, 193, 0)))
          (.v (u, 193, 0)))))
       (.if_ (decide (u.rx.n > 0))
        (.if_ ((andI .u8 u.ier 1) != 0)
         (.v (u, 196, 0))
         (.if_ (u.tx.n == 0)
          (.if_ ((andI .u8 u.ier 2) != 0)
           (.v (u, 194, 0))
           (.v (u, 193, 0)))
          (.v (u, 193, 0))))
        (.if_ (u.tx.n == 0)
         (.if_ ((andI .u8 u.ier 2) != 0)
          (.v (u, 194, 0))
          (.v (u, 193, 0)))
         (.v (u, 193, 0)))))
      (.if_ (at_ == 3)
       (.v (u, u.lcr, 0))
       (.if_ (at_ == 4)
        (.v (u, u.mcr, 0))
        (.if_ (at_ == 5)
         (.if_ (decide (u.rx.n > 0))
          (.if_ u.ov
           (.if_ (u.tx.n == 0)
            (.v ({ u with ov := .false }, 99, 0))
            (.v ({ u with ov := .false }, 3, 0)))
           (.if_ (u.tx.n == 0)
            (.v ({ u with ov := .false }, 97, 0))
            (.v ({ u with ov := .false }, 1, 0))))
          (.if_ u.ov
           (.if_ (u.tx.n == 0)
            (.v ({ u with ov := .false }, 98, 0))
            (.v ({ u with ov := .false }, 2, 0)))
           (.if_ (u.tx.n == 0)
            (.v ({ u with ov := .false }, 96, 0))
            (.v ({ u with ov := .false }, 0, 0)))))
         (.if_ (at_ == 6)
          (.v (u, 0, 0))
          (.if_ (at_ == 7)
           (.v (u, u.scr, 0))
           (.v ((Us.mk (Fi.mk (fun z1 => 0) 0) (Fi.mk (fun z2 => 0) 0) 0 0 0 0 0 0 .false 0), 0, 20))))))))))
   (.v ((Us.mk (Fi.mk (fun z3 => 0) 0) (Fi.mk (fun z4 => 0) 0) 0 0 0 0 0 0 .false 0), 0, 1)))

def rvals (u : Us) (one : Int) : List Int := [u.dll, one, IntKind.wrap .u8 (192 + (raskP u).val 0), u.lcr, u.mcr, 0, 0, u.scr]
def rlast (u : Us) (at_ : Int) (one : Int) : PT (Us × Int × Int) :=
  (.if_ (decide (at_ > 7))
   (.v (u0, 0, 20))
   (.if_ (inB at_ 8)
    (.two (.if_ (Nat.blt at_.toNat 8)
     (.v (u, nthI at_.toNat 0 (rvals u one), 0))
     .bad))
    .bad))
def rtail (u : Us) (at_ : Int) : PT (Us × Int × Int) :=
  (.if_ (raskP u).ok
   (.if_ (decide (u.lcr ≥ 128))
    (rlast u at_ u.dlm)
    (rlast u at_ u.ier))
   .bad)
def rline (u : Us) : PT (Us × Int × Int) :=
  (.if_ (decide (u.rx.n > 0))
   (.if_ u.ov
    (.if_ (u.tx.n == 0)
     (.v ({ u with ov := .false }, 99, 0))
     (.v ({ u with ov := .false }, 3, 0)))
    (.if_ (u.tx.n == 0)
     (.v ({ u with ov := .false }, 97, 0))
     (.v ({ u with ov := .false }, 1, 0))))
   (.if_ u.ov
    (.if_ (u.tx.n == 0)
     (.v ({ u with ov := .false }, 98, 0))
     (.v ({ u with ov := .false }, 2, 0)))
    (.if_ (u.tx.n == 0)
     (.v ({ u with ov := .false }, 96, 0))
     (.v ({ u with ov := .false }, 0, 0)))))
def rrest (u : Us) (at_ : Int) : PT (Us × Int × Int) :=
  (.if_ (at_ == 5) (rline u) (rtail u at_))
def rrdP (u : Us) (at_ : Int) : PT (Us × Int × Int) :=
  (.if_ ((cond (okU u) (0 : Int) 1) != 0)
   (.v (u0, 0, 1))
   (.if_ (at_ == 0)
    (.if_ (!decide (u.lcr ≥ 128))
     (.if_ (decide (0 ≤ u.rx.n) && decide (u.rx.n ≤ 16))
      (.v ({ u with rx := cond (u.rx.n == 0) u.rx (rtakeF u.rx) }, cond (u.rx.n == 0) 0 (u.rx.b 0), 0))
      .bad)
     (rrest u at_))
    (rrest u at_)))

def wrE (r : Us × Int) : PV := errPV 50 r.2 fun e => .tu [.ag (encU r.1), e]
def rwrE (r : Us × Int) : PV := .v (.tu [.ag (encU r.1), .sc (.i .i64 r.2)])
def rdE (r : Us × Int × Int) : PV := errPV 50 r.2.2 fun e => .tu [.ag (encU r.1), .sc (.i .u8 r.2.1), e]
def rrdE (r : Us × Int × Int) : PV := .v (.tu [.ag (encU r.1), .sc (.i .u8 r.2.1), .sc (.i .i64 r.2.2)])
theorem wrE_flat (r : Us × Int) : flatV (wrE r).val = true := by
  unfold wrE errPV
  simp only [PV.val]
  cases r.2 == 0 <;> rfl
theorem rdE_flat (r : Us × Int × Int) : flatV (rdE r).val = true := by
  unfold rdE errPV
  simp only [PV.val]
  cases r.2.2 == 0 <;> rfl
theorem wr_run (u : Us) (at_ v : Int) (q : V → Bool) : goS noOver ov3 18 4 5 (dUAV.enc (u, at_, v)) q = (wrP u at_ v).run fun r => (wrE r).run q := by kernel_rfl
theorem rwr_run (u : Us) (at_ v : Int) (q : V → Bool) : goS noOver ov3 18 4 7 (dUAV.enc (u, at_, v)) q = (rwrP u at_ v).run fun r => (rwrE r).run q := by kernel_rfl
theorem rd_run (u : Us) (at_ : Int) (q : V → Bool) : goS noOver ov3 18 4 10 (dUA.enc (u, at_)) q = (rdP u at_).run fun r => (rdE r).run q := by kernel_rfl
theorem rrd_run (u : Us) (at_ : Int) (q : V → Bool) : goS so1 ov4 18 4 11 (dUA.enc (u, at_)) q = (rrdP u at_).run fun r => (rrdE r).run q := by kernel_rfl

noncomputable def wrCT : CT := fnCT dUAV (fun a => (wrP a.1 a.2.1 a.2.2).ok) (fun a => (wrP a.1 a.2.1 a.2.2).val (u0, 0)) wrE
noncomputable def rwrCT : CT := fnCT dUAV (fun a => (rwrP a.1 a.2.1 a.2.2).ok) (fun a => (rwrP a.1 a.2.1 a.2.2).val (u0, 0)) rwrE
noncomputable def rdCT : CT := fnCT dUA (fun a => (rdP a.1 a.2).ok) (fun a => (rdP a.1 a.2).val (u0, 0, 0)) rdE
theorem wr_ok : CTok PP 5 wrCT := fnCT_ok noOver_hard ov3_ok wrE_flat fun a q => wr_run a.1 a.2.1 a.2.2 q
theorem rwr_ok : CTok PP 7 rwrCT := fnCT_ok noOver_hard ov3_ok (fun _ => rfl) fun a q => rwr_run a.1 a.2.1 a.2.2 q
theorem rd_ok : CTok PP 10 rdCT := fnCT_ok noOver_hard ov3_ok rdE_flat fun a q => rd_run a.1 a.2 q
noncomputable def rrdCT : CT := fnCT dUA (fun a => (rrdP a.1 a.2).ok) (fun a => (rrdP a.1 a.2).val (u0, 0, 0)) rrdE
theorem rrd_ok : CTok PP 11 rrdCT := fnCT_ok so1_ok ov4_ok (fun _ => rfl) fun a q => rrd_run a.1 a.2 q

theorem check_hard : CTokE PP true 14 (closedCT checkD) := closedCT_hard check_ok fun args c r h => by
  obtain ⟨u, rfl, h⟩ := oneU_spec h
  cases h
  exact ⟨rfl, by simp only [PV.val]; cases okU u <;> rfl⟩
theorem give_hard : CTokE PP true 6 (closedCT giveD) := closedCT_hard give_ok fun args c r h => by
  obtain ⟨u, rfl, h⟩ := oneU_spec h
  cases h
  exact ⟨rfl, rfl⟩
theorem sure_hard : CTokE PP true 9 (closedCT sureD) := closedCT_hard sure_ok fun args c r h => by
  unfold sureD at h
  split at h
  · cases h; exact ⟨rfl, rfl⟩
  · cases h
theorem ask_hard : CTokE PP true 15 askCT := fnCT_hard (fun _ => rfl) ask_ok
theorem num_hard : CTokE PP true 8 (closedCT numD) := closedCT_hard num_ok fun args c r h => by
  unfold numD at h
  split at h
  · cases h; exact ⟨rfl, rfl⟩
  · simp only [Bool.cond_eq_ite] at h
    split at h
    · cases h; exact ⟨rfl, rfl⟩
    · cases h
  · cases h

noncomputable def so2 : FuncId → Option CT := fun f => cond (Nat.beq f 14) (some (closedCT checkD)) (cond (Nat.beq f 6) (some (closedCT giveD)) (cond (Nat.beq f 9) (some (closedCT sureD)) (cond (Nat.beq f 15) (some askCT) (cond (Nat.beq f 8) (some (closedCT numD)) (so1 f)))))
theorem so2_ok : ∀ g F, so2 g = some F → CTokE PP true g F := fun g F h => by
  simp only [so2, Bool.cond_eq_ite, beq_iff] at h
  split at h
  · rename_i e; cases h; subst e; exact check_hard
  split at h
  · rename_i e; cases h; subst e; exact give_hard
  split at h
  · rename_i e; cases h; subst e; exact sure_hard
  split at h
  · rename_i e; cases h; subst e; exact ask_hard
  split at h
  · rename_i e; cases h; subst e; exact num_hard
  exact so1_ok g F h

noncomputable def ov5 : FuncId → Option CT := fun f => cond (Nat.beq f 5) (some wrCT) (cond (Nat.beq f 7) (some rwrCT) (cond (Nat.beq f 10) (some rdCT) (cond (Nat.beq f 11) (some rrdCT) (ov4 f))))
theorem ov5_ok : ∀ g F, ov5 g = some F → CTok PP g F := fun g F h => by
  simp only [ov5, Bool.cond_eq_ite, beq_iff] at h
  split at h
  · rename_i e; cases h; subst e; exact wr_ok
  split at h
  · rename_i e; cases h; subst e; exact rwr_ok
  split at h
  · rename_i e; cases h; subst e; exact rd_ok
  split at h
  · rename_i e; cases h; subst e; exact rrd_ok
  exact ov4_ok g F h

end Go.Proofs.YteionboacdkfjaaDoor.X
