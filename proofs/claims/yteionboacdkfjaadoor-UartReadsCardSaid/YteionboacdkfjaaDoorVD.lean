/-
  UART: the two laws' trees, and that they answer true.
-/
import Derived.Test.YteionboacdkfjaaDoorVC
namespace Go.Proofs.YteionboacdkfjaaDoor.X
set_option linter.unusedVariables false

def eqU (x y : Us) : Bool := allN (fun z => x.rx.b z == y.rx.b z) 16 && ((x.rx.n == y.rx.n) && (allN (fun z => x.tx.b z == y.tx.b z) 16 && ((x.tx.n == y.tx.n) && ((x.ier == y.ier) && ((x.lcr == y.lcr) && ((x.mcr == y.mcr) && ((x.scr == y.scr) && ((x.dll == y.dll) && ((x.dlm == y.dlm) && ((x.ov == y.ov) && ((x.wt == y.wt) && true)))))))))))

def wrV (u : Us) (at_ v : Int) : Us × Int := (wrP u at_ v).val (u0, 0)
def rwrV (u : Us) (at_ v : Int) : Us × Int := (rwrP u at_ v).val (u0, 0)
def rdV (u : Us) (at_ : Int) : Us × Int × Int := (rdP u at_).val (u0, 0, 0)
def rrdV (u : Us) (at_ : Int) : Us × Int × Int := (rrdP u at_).val (u0, 0, 0)

theorem writes_run (u : Us) (at_ v : Int) (q : V → Bool) : goS so2 ov5 18 5 3 (dUAV.enc (u, at_, v)) q =
    cond (wrP u at_ v).ok
     (cond ((wrV u at_ v).2 == 0)
      (cond (rwrP u at_ v).ok
       (cond (eqU (wrV u at_ v).1 (rwrV u at_ v).1)
        (cond (0 == (rwrV u at_ v).2)
         (q (.sc (.b true)))
         (q (.sc (.b false))))
        (q (.sc (.b false))))
       false)
      (cond (rwrP u at_ v).ok
       (cond (eqU (wrV u at_ v).1 (rwrV u at_ v).1)
        (cond ((wrV u at_ v).2 == (rwrV u at_ v).2)
         (q (.sc (.b true)))
         (q (.sc (.b false))))
        (q (.sc (.b false))))
       false))
     false := by kernel_rfl

def asksT (u : Us) (q : V → Bool) (r : Bool) : Bool :=
  cond (okU u)
   (cond ((0 : Int) == cond (okU u) 0 1)
    (cond (askP u).ok
     (cond ((askP u).val false == r)
      (q (.sc (.b true)))
      (q (.sc (.b false))))
     false)
    (q (.sc (.b false))))
   (cond ((1 : Int) == cond (okU u) 0 1)
    (cond (askP u).ok
     (cond ((askP u).val false == r)
      (q (.sc (.b true)))
      (q (.sc (.b false))))
     false)
    (q (.sc (.b false))))
def readsT (u : Us) (at_ : Int) (q : V → Bool) (e : Int) (r : Bool) : Bool :=
  cond (eqU (rdV u at_).1 (rrdV u at_).1)
   (cond ((rdV u at_).2.1 == (rrdV u at_).2.1)
    (cond (e == (rrdV u at_).2.2)
     (asksT u q r)
     (q (.sc (.b false))))
    (q (.sc (.b false))))
   (q (.sc (.b false)))
def readsS (u : Us) (at_ : Int) (q : V → Bool) (e : Int) : Bool :=
  cond (rrdP u at_).ok
   (cond (cond (okU u) (0 : Int) 1 == 0)
    (cond (raskP u).ok
     (readsT u at_ q e ((raskP u).val 0 != 1))
     false)
    (readsT u at_ q e false))
   false
theorem reads_run (u : Us) (at_ : Int) (q : V → Bool) : goS so2 ov5 18 5 4 (dUA.enc (u, at_)) q =
    cond (rdP u at_).ok
     (cond ((rdV u at_).2.2 == 0)
      (readsS u at_ q 0)
      (readsS u at_ q (rdV u at_).2.2))
     false := by kernel_rfl

end Go.Proofs.YteionboacdkfjaaDoor.X
