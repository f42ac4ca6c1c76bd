/-
  UART, part L: a round of the loop of 'UartOrder', as the executor sees it: the trees (printed by the tool wip/rb.txt).
-/
import Derived.Test.YteionboacdkfjaaUK
namespace Go.Proofs.Yteionboacdkfjaa.X

def mkg (k c : Nat → Int) : Nat → Nat → S := fun i j => cond (Nat.beq j 0) (.i .i64 (k i)) (.i .u8 (c i))
def kap (k : Nat → Int) (i : Int) : Int := IntKind.i64.wrap ((IntKind.u64.wrap (k i.toNat)).tmod 8)
def ch (c : Nat → Int) (i : Int) : Int := c i.toNat

set_option maxRecDepth 100000 in
noncomputable def roundSS (L cp : Nat) (k c : Nat → Int) (u : Us) (r1 r2 : Row) (ov : Bool) (i : Int) (q : OS → Bool) (kk : K) : Bool :=
  (cond (decide (i < ((L : Nat) : Int)))
   (cond (decide (i < 200))
    (cond (inB i L)
     (cond (Nat.blt (Int.toNat i) L)
      (cond ((kap k i) == 0)
       (cond ((kap k i) == 0)
        (cond (inB i L)
         (cond (Nat.blt (Int.toNat i) L)
          (cond (decide (((r1.n : Nat) : Int) < 16))
           (cond (inB i L)
            (cond (Nat.blt (Int.toNat i) L)
             (cond ((Nat.ble r1.n r1.n) && ((Nat.beq (r1.n + 0) (r1.n * 1)) && (Nat.ble ((r1.n + 1) * 2) 68719476736)))
              (cond (okU (putU u (ch c i)))
               (cond ((putU u (ch c i)).rx.n != (((r1.n + 1) : Nat) : Int))
                false
                (cond ((putU u (ch c i)).tx.n != ((r2.n : Nat) : Int))
                 false
                 (cond (!((putU u (ch c i)).ov == ov))
                  false
                  (cond ((Nat.beq L L) && ((Nat.ble (0 + (r1.n + 1)) (r1.n + 1)) && (Nat.ble (0 + r2.n) r2.n)))
                   (q (OS.mk L cp (mkg k c) (putU u (ch c i)) (some (Row.mk (r1.n + 1) (fun j => (cond (Nat.blt (0 + j) r1.n) (r1.f (0 + j)) (ch c i))))) (some (Row.mk r2.n (fun j => (r2.f (0 + j))))) ov (IntKind.wrap .i64 (i + 1))))
                   false))))
               false)
              false)
             false)
            false)
           (cond (okU (putU u (ch c i)))
            (cond ((putU u (ch c i)).rx.n != ((r1.n : Nat) : Int))
             false
             (cond ((putU u (ch c i)).tx.n != ((r2.n : Nat) : Int))
              false
              (cond (!((putU u (ch c i)).ov == true))
               false
               (cond ((Nat.beq L L) && ((Nat.ble (0 + r1.n) r1.n) && (Nat.ble (0 + r2.n) r2.n)))
                (q (OS.mk L cp (mkg k c) (putU u (ch c i)) (some (Row.mk r1.n (fun j => (r1.f (0 + j))))) (some (Row.mk r2.n (fun j => (r2.f (0 + j))))) true (IntKind.wrap .i64 (i + 1))))
                false))))
            false))
          false)
         false)
        (cond ((kap k i) == 2)
         (cond ((kap k i) == 2)
          (cond (inB i L)
           (cond (Nat.blt (Int.toNat i) L)
            (cond (cond ((okU u) && (!(latch u))) (cond (decide (((r2.n : Nat) : Int) < 16)) (cond (inB i L) (cond (Nat.blt (Int.toNat i) L) (cond ((Nat.ble r2.n r2.n) && ((Nat.beq (r2.n + 0) (r2.n * 1)) && (Nat.ble ((r2.n + 1) * 2) 68719476736))) (cond (okU (write0U u (ch c i))) (cond ((write0U u (ch c i)).rx.n != ((r1.n : Nat) : Int)) false (cond ((write0U u (ch c i)).tx.n != (((r2.n + 1) : Nat) : Int)) false (cond (!((write0U u (ch c i)).ov == ov)) false (cond ((Nat.beq L L) && ((Nat.ble (0 + r1.n) r1.n) && (Nat.ble (0 + (r2.n + 1)) (r2.n + 1)))) (q (OS.mk L cp (mkg k c) (write0U u (ch c i)) (some (Row.mk r1.n (fun j => (r1.f (0 + j))))) (some (Row.mk (r2.n + 1) (fun j => (cond (Nat.blt (0 + j) r2.n) (r2.f (0 + j)) (ch c i))))) ov (IntKind.wrap .i64 (i + 1)))) false)))) false) false) false) false) (cond (okU (write0U u (ch c i))) (cond ((write0U u (ch c i)).rx.n != ((r1.n : Nat) : Int)) false (cond ((write0U u (ch c i)).tx.n != ((r2.n : Nat) : Int)) false (cond (!((write0U u (ch c i)).ov == ov)) false (cond ((Nat.beq L L) && ((Nat.ble (0 + r1.n) r1.n) && (Nat.ble (0 + r2.n) r2.n))) (q (OS.mk L cp (mkg k c) (write0U u (ch c i)) (some (Row.mk r1.n (fun j => (r1.f (0 + j))))) (some (Row.mk r2.n (fun j => (r2.f (0 + j))))) ov (IntKind.wrap .i64 (i + 1)))) false)))) false)) false)
             (cond ((okU u) && (!(latch u)))
              (cond (decide (((r2.n : Nat) : Int) < 16))
               (cond (inB i L)
                (cond (Nat.blt (Int.toNat i) L)
                 (cond ((Nat.ble r2.n r2.n) && ((Nat.beq (r2.n + 0) (r2.n * 1)) && (Nat.ble ((r2.n + 1) * 2) 68719476736)))
                  (cond (okU (write0U u (ch c i)))
                   (cond ((write0U u (ch c i)).rx.n != ((r1.n : Nat) : Int))
                    false
                    (cond ((write0U u (ch c i)).tx.n != (((r2.n + 1) : Nat) : Int))
                     false
                     (cond (!((write0U u (ch c i)).ov == ov))
                      false
                      (cond ((Nat.beq L L) && ((Nat.ble (0 + r1.n) r1.n) && (Nat.ble (0 + (r2.n + 1)) (r2.n + 1))))
                       (q (OS.mk L cp (mkg k c) (write0U u (ch c i)) (some (Row.mk r1.n (fun j => (r1.f (0 + j))))) (some (Row.mk (r2.n + 1) (fun j => (cond (Nat.blt (0 + j) r2.n) (r2.f (0 + j)) (ch c i))))) ov (IntKind.wrap .i64 (i + 1))))
                       false))))
                   false)
                  false)
                 false)
                false)
               (cond (okU (write0U u (ch c i)))
                (cond ((write0U u (ch c i)).rx.n != ((r1.n : Nat) : Int))
                 false
                 (cond ((write0U u (ch c i)).tx.n != ((r2.n : Nat) : Int))
                  false
                  (cond (!((write0U u (ch c i)).ov == ov))
                   false
                   (cond ((Nat.beq L L) && ((Nat.ble (0 + r1.n) r1.n) && (Nat.ble (0 + r2.n) r2.n)))
                    (q (OS.mk L cp (mkg k c) (write0U u (ch c i)) (some (Row.mk r1.n (fun j => (r1.f (0 + j))))) (some (Row.mk r2.n (fun j => (r2.f (0 + j))))) ov (IntKind.wrap .i64 (i + 1))))
                    false))))
                false))
              false)
             false)
            false)
           false)
          (cond ((kap k i) == 4)
           (cond ((okU u) && (!(latch u)))
            (cond (decide (((r1.n : Nat) : Int) > 0))
             (cond (inB 0 r1.n)
              (cond (Nat.blt 0 r1.n)
               (cond ((read0C u) != (r1.f 0))
                false
                (cond (((r1.n : Nat) : Int) == 0)
                 (cond ((read0C u) != 0)
                  false
                  (cond (decide (((r1.n : Nat) : Int) > 0))
                   (cond (decide (1 ≤ ((r1.n : Nat) : Int)))
                    (cond (okU (read0U u))
                     (cond ((read0U u).rx.n != (((r1.n - 1) : Nat) : Int))
                      false
                      (cond ((read0U u).tx.n != ((r2.n : Nat) : Int))
                       false
                       (cond (!((read0U u).ov == ov))
                        false
                        (cond ((Nat.beq L L) && ((Nat.ble (1 + (r1.n - 1)) r1.n) && (Nat.ble (0 + r2.n) r2.n)))
                         (q (OS.mk L cp (mkg k c) (read0U u) (some (Row.mk (r1.n - 1) (fun j => (r1.f (1 + j))))) (some (Row.mk r2.n (fun j => (r2.f (0 + j))))) ov (IntKind.wrap .i64 (i + 1))))
                         false))))
                     false)
                    false)
                   (cond (okU (read0U u))
                    (cond ((read0U u).rx.n != ((r1.n : Nat) : Int))
                     false
                     (cond ((read0U u).tx.n != ((r2.n : Nat) : Int))
                      false
                      (cond (!((read0U u).ov == ov))
                       false
                       (cond ((Nat.beq L L) && ((Nat.ble (0 + r1.n) r1.n) && (Nat.ble (0 + r2.n) r2.n)))
                        (q (OS.mk L cp (mkg k c) (read0U u) (some (Row.mk r1.n (fun j => (r1.f (0 + j))))) (some (Row.mk r2.n (fun j => (r2.f (0 + j))))) ov (IntKind.wrap .i64 (i + 1))))
                        false))))
                    false)))
                 (cond (decide (((r1.n : Nat) : Int) > 0))
                  (cond (decide (1 ≤ ((r1.n : Nat) : Int)))
                   (cond (okU (read0U u))
                    (cond ((read0U u).rx.n != (((r1.n - 1) : Nat) : Int))
                     false
                     (cond ((read0U u).tx.n != ((r2.n : Nat) : Int))
                      false
                      (cond (!((read0U u).ov == ov))
                       false
                       (cond ((Nat.beq L L) && ((Nat.ble (1 + (r1.n - 1)) r1.n) && (Nat.ble (0 + r2.n) r2.n)))
                        (q (OS.mk L cp (mkg k c) (read0U u) (some (Row.mk (r1.n - 1) (fun j => (r1.f (1 + j))))) (some (Row.mk r2.n (fun j => (r2.f (0 + j))))) ov (IntKind.wrap .i64 (i + 1))))
                        false))))
                    false)
                   false)
                  (cond (okU (read0U u))
                   (cond ((read0U u).rx.n != ((r1.n : Nat) : Int))
                    false
                    (cond ((read0U u).tx.n != ((r2.n : Nat) : Int))
                     false
                     (cond (!((read0U u).ov == ov))
                      false
                      (cond ((Nat.beq L L) && ((Nat.ble (0 + r1.n) r1.n) && (Nat.ble (0 + r2.n) r2.n)))
                       (q (OS.mk L cp (mkg k c) (read0U u) (some (Row.mk r1.n (fun j => (r1.f (0 + j))))) (some (Row.mk r2.n (fun j => (r2.f (0 + j))))) ov (IntKind.wrap .i64 (i + 1))))
                       false))))
                   false))))
               false)
              false)
             (cond (((r1.n : Nat) : Int) == 0)
              (cond ((read0C u) != 0)
               false
               (cond (decide (((r1.n : Nat) : Int) > 0))
                (cond (decide (1 ≤ ((r1.n : Nat) : Int)))
                 (cond (okU (read0U u))
                  (cond ((read0U u).rx.n != (((r1.n - 1) : Nat) : Int))
                   false
                   (cond ((read0U u).tx.n != ((r2.n : Nat) : Int))
                    false
                    (cond (!((read0U u).ov == ov))
                     false
                     (cond ((Nat.beq L L) && ((Nat.ble (1 + (r1.n - 1)) r1.n) && (Nat.ble (0 + r2.n) r2.n)))
                      (q (OS.mk L cp (mkg k c) (read0U u) (some (Row.mk (r1.n - 1) (fun j => (r1.f (1 + j))))) (some (Row.mk r2.n (fun j => (r2.f (0 + j))))) ov (IntKind.wrap .i64 (i + 1))))
                      false))))
                  false)
                 false)
                (cond (okU (read0U u))
                 (cond ((read0U u).rx.n != ((r1.n : Nat) : Int))
                  false
                  (cond ((read0U u).tx.n != ((r2.n : Nat) : Int))
                   false
                   (cond (!((read0U u).ov == ov))
                    false
                    (cond ((Nat.beq L L) && ((Nat.ble (0 + r1.n) r1.n) && (Nat.ble (0 + r2.n) r2.n)))
                     (q (OS.mk L cp (mkg k c) (read0U u) (some (Row.mk r1.n (fun j => (r1.f (0 + j))))) (some (Row.mk r2.n (fun j => (r2.f (0 + j))))) ov (IntKind.wrap .i64 (i + 1))))
                     false))))
                 false)))
              (cond (decide (((r1.n : Nat) : Int) > 0))
               (cond (decide (1 ≤ ((r1.n : Nat) : Int)))
                (cond (okU (read0U u))
                 (cond ((read0U u).rx.n != (((r1.n - 1) : Nat) : Int))
                  false
                  (cond ((read0U u).tx.n != ((r2.n : Nat) : Int))
                   false
                   (cond (!((read0U u).ov == ov))
                    false
                    (cond ((Nat.beq L L) && ((Nat.ble (1 + (r1.n - 1)) r1.n) && (Nat.ble (0 + r2.n) r2.n)))
                     (q (OS.mk L cp (mkg k c) (read0U u) (some (Row.mk (r1.n - 1) (fun j => (r1.f (1 + j))))) (some (Row.mk r2.n (fun j => (r2.f (0 + j))))) ov (IntKind.wrap .i64 (i + 1))))
                     false))))
                 false)
                false)
               (cond (okU (read0U u))
                (cond ((read0U u).rx.n != ((r1.n : Nat) : Int))
                 false
                 (cond ((read0U u).tx.n != ((r2.n : Nat) : Int))
                  false
                  (cond (!((read0U u).ov == ov))
                   false
                   (cond ((Nat.beq L L) && ((Nat.ble (0 + r1.n) r1.n) && (Nat.ble (0 + r2.n) r2.n)))
                    (q (OS.mk L cp (mkg k c) (read0U u) (some (Row.mk r1.n (fun j => (r1.f (0 + j))))) (some (Row.mk r2.n (fun j => (r2.f (0 + j))))) ov (IntKind.wrap .i64 (i + 1))))
                    false))))
                false))))
            false)
           (cond (tickB u)
            (cond (((r2.n : Nat) : Int) == 0)
             false
             (cond (inB 0 r2.n)
              (cond (Nat.blt 0 r2.n)
               (cond ((tickC u) != (r2.f 0))
                false
                (cond (u.wt != 3)
                 false
                 (cond (decide (1 ≤ ((r2.n : Nat) : Int)))
                  (cond (okU (tickU u))
                   (cond ((tickU u).rx.n != ((r1.n : Nat) : Int))
                    false
                    (cond ((tickU u).tx.n != (((r2.n - 1) : Nat) : Int))
                     false
                     (cond (!((tickU u).ov == ov))
                      false
                      (cond ((Nat.beq L L) && ((Nat.ble (0 + r1.n) r1.n) && (Nat.ble (1 + (r2.n - 1)) r2.n)))
                       (q (OS.mk L cp (mkg k c) (tickU u) (some (Row.mk r1.n (fun j => (r1.f (0 + j))))) (some (Row.mk (r2.n - 1) (fun j => (r2.f (1 + j))))) ov (IntKind.wrap .i64 (i + 1))))
                       false))))
                   false)
                  false)))
               false)
              false))
            (cond (okU (tickU u))
             (cond ((tickU u).rx.n != ((r1.n : Nat) : Int))
              false
              (cond ((tickU u).tx.n != ((r2.n : Nat) : Int))
               false
               (cond (!((tickU u).ov == ov))
                false
                (cond ((Nat.beq L L) && ((Nat.ble (0 + r1.n) r1.n) && (Nat.ble (0 + r2.n) r2.n)))
                 (q (OS.mk L cp (mkg k c) (tickU u) (some (Row.mk r1.n (fun j => (r1.f (0 + j))))) (some (Row.mk r2.n (fun j => (r2.f (0 + j))))) ov (IntKind.wrap .i64 (i + 1))))
                 false))))
             false))))
         (cond ((kap k i) == 3)
          (cond (inB i L)
           (cond (Nat.blt (Int.toNat i) L)
            (cond (cond ((okU u) && (!(latch u))) (cond (decide (((r2.n : Nat) : Int) < 16)) (cond (inB i L) (cond (Nat.blt (Int.toNat i) L) (cond ((Nat.ble r2.n r2.n) && ((Nat.beq (r2.n + 0) (r2.n * 1)) && (Nat.ble ((r2.n + 1) * 2) 68719476736))) (cond (okU (write0U u (ch c i))) (cond ((write0U u (ch c i)).rx.n != ((r1.n : Nat) : Int)) false (cond ((write0U u (ch c i)).tx.n != (((r2.n + 1) : Nat) : Int)) false (cond (!((write0U u (ch c i)).ov == ov)) false (cond ((Nat.beq L L) && ((Nat.ble (0 + r1.n) r1.n) && (Nat.ble (0 + (r2.n + 1)) (r2.n + 1)))) (q (OS.mk L cp (mkg k c) (write0U u (ch c i)) (some (Row.mk r1.n (fun j => (r1.f (0 + j))))) (some (Row.mk (r2.n + 1) (fun j => (cond (Nat.blt (0 + j) r2.n) (r2.f (0 + j)) (ch c i))))) ov (IntKind.wrap .i64 (i + 1)))) false)))) false) false) false) false) (cond (okU (write0U u (ch c i))) (cond ((write0U u (ch c i)).rx.n != ((r1.n : Nat) : Int)) false (cond ((write0U u (ch c i)).tx.n != ((r2.n : Nat) : Int)) false (cond (!((write0U u (ch c i)).ov == ov)) false (cond ((Nat.beq L L) && ((Nat.ble (0 + r1.n) r1.n) && (Nat.ble (0 + r2.n) r2.n))) (q (OS.mk L cp (mkg k c) (write0U u (ch c i)) (some (Row.mk r1.n (fun j => (r1.f (0 + j))))) (some (Row.mk r2.n (fun j => (r2.f (0 + j))))) ov (IntKind.wrap .i64 (i + 1)))) false)))) false)) false)
             (cond ((okU u) && (!(latch u)))
              (cond (decide (((r2.n : Nat) : Int) < 16))
               (cond (inB i L)
                (cond (Nat.blt (Int.toNat i) L)
                 (cond ((Nat.ble r2.n r2.n) && ((Nat.beq (r2.n + 0) (r2.n * 1)) && (Nat.ble ((r2.n + 1) * 2) 68719476736)))
                  (cond (okU (write0U u (ch c i)))
                   (cond ((write0U u (ch c i)).rx.n != ((r1.n : Nat) : Int))
                    false
                    (cond ((write0U u (ch c i)).tx.n != (((r2.n + 1) : Nat) : Int))
                     false
                     (cond (!((write0U u (ch c i)).ov == ov))
                      false
                      (cond ((Nat.beq L L) && ((Nat.ble (0 + r1.n) r1.n) && (Nat.ble (0 + (r2.n + 1)) (r2.n + 1))))
                       (q (OS.mk L cp (mkg k c) (write0U u (ch c i)) (some (Row.mk r1.n (fun j => (r1.f (0 + j))))) (some (Row.mk (r2.n + 1) (fun j => (cond (Nat.blt (0 + j) r2.n) (r2.f (0 + j)) (ch c i))))) ov (IntKind.wrap .i64 (i + 1))))
                       false))))
                   false)
                  false)
                 false)
                false)
               (cond (okU (write0U u (ch c i)))
                (cond ((write0U u (ch c i)).rx.n != ((r1.n : Nat) : Int))
                 false
                 (cond ((write0U u (ch c i)).tx.n != ((r2.n : Nat) : Int))
                  false
                  (cond (!((write0U u (ch c i)).ov == ov))
                   false
                   (cond ((Nat.beq L L) && ((Nat.ble (0 + r1.n) r1.n) && (Nat.ble (0 + r2.n) r2.n)))
                    (q (OS.mk L cp (mkg k c) (write0U u (ch c i)) (some (Row.mk r1.n (fun j => (r1.f (0 + j))))) (some (Row.mk r2.n (fun j => (r2.f (0 + j))))) ov (IntKind.wrap .i64 (i + 1))))
                    false))))
                false))
              false)
             false)
            false)
           false)
          (cond ((kap k i) == 4)
           (cond ((okU u) && (!(latch u)))
            (cond (decide (((r1.n : Nat) : Int) > 0))
             (cond (inB 0 r1.n)
              (cond (Nat.blt 0 r1.n)
               (cond ((read0C u) != (r1.f 0))
                false
                (cond (((r1.n : Nat) : Int) == 0)
                 (cond ((read0C u) != 0)
                  false
                  (cond (decide (((r1.n : Nat) : Int) > 0))
                   (cond (decide (1 ≤ ((r1.n : Nat) : Int)))
                    (cond (okU (read0U u))
                     (cond ((read0U u).rx.n != (((r1.n - 1) : Nat) : Int))
                      false
                      (cond ((read0U u).tx.n != ((r2.n : Nat) : Int))
                       false
                       (cond (!((read0U u).ov == ov))
                        false
                        (cond ((Nat.beq L L) && ((Nat.ble (1 + (r1.n - 1)) r1.n) && (Nat.ble (0 + r2.n) r2.n)))
                         (q (OS.mk L cp (mkg k c) (read0U u) (some (Row.mk (r1.n - 1) (fun j => (r1.f (1 + j))))) (some (Row.mk r2.n (fun j => (r2.f (0 + j))))) ov (IntKind.wrap .i64 (i + 1))))
                         false))))
                     false)
                    false)
                   (cond (okU (read0U u))
                    (cond ((read0U u).rx.n != ((r1.n : Nat) : Int))
                     false
                     (cond ((read0U u).tx.n != ((r2.n : Nat) : Int))
                      false
                      (cond (!((read0U u).ov == ov))
                       false
                       (cond ((Nat.beq L L) && ((Nat.ble (0 + r1.n) r1.n) && (Nat.ble (0 + r2.n) r2.n)))
                        (q (OS.mk L cp (mkg k c) (read0U u) (some (Row.mk r1.n (fun j => (r1.f (0 + j))))) (some (Row.mk r2.n (fun j => (r2.f (0 + j))))) ov (IntKind.wrap .i64 (i + 1))))
                        false))))
                    false)))
                 (cond (decide (((r1.n : Nat) : Int) > 0))
                  (cond (decide (1 ≤ ((r1.n : Nat) : Int)))
                   (cond (okU (read0U u))
                    (cond ((read0U u).rx.n != (((r1.n - 1) : Nat) : Int))
                     false
                     (cond ((read0U u).tx.n != ((r2.n : Nat) : Int))
                      false
                      (cond (!((read0U u).ov == ov))
                       false
                       (cond ((Nat.beq L L) && ((Nat.ble (1 + (r1.n - 1)) r1.n) && (Nat.ble (0 + r2.n) r2.n)))
                        (q (OS.mk L cp (mkg k c) (read0U u) (some (Row.mk (r1.n - 1) (fun j => (r1.f (1 + j))))) (some (Row.mk r2.n (fun j => (r2.f (0 + j))))) ov (IntKind.wrap .i64 (i + 1))))
                        false))))
                    false)
                   false)
                  (cond (okU (read0U u))
                   (cond ((read0U u).rx.n != ((r1.n : Nat) : Int))
                    false
                    (cond ((read0U u).tx.n != ((r2.n : Nat) : Int))
                     false
                     (cond (!((read0U u).ov == ov))
                      false
                      (cond ((Nat.beq L L) && ((Nat.ble (0 + r1.n) r1.n) && (Nat.ble (0 + r2.n) r2.n)))
                       (q (OS.mk L cp (mkg k c) (read0U u) (some (Row.mk r1.n (fun j => (r1.f (0 + j))))) (some (Row.mk r2.n (fun j => (r2.f (0 + j))))) ov (IntKind.wrap .i64 (i + 1))))
                       false))))
                   false))))
               false)
              false)
             (cond (((r1.n : Nat) : Int) == 0)
              (cond ((read0C u) != 0)
               false
               (cond (decide (((r1.n : Nat) : Int) > 0))
                (cond (decide (1 ≤ ((r1.n : Nat) : Int)))
                 (cond (okU (read0U u))
                  (cond ((read0U u).rx.n != (((r1.n - 1) : Nat) : Int))
                   false
                   (cond ((read0U u).tx.n != ((r2.n : Nat) : Int))
                    false
                    (cond (!((read0U u).ov == ov))
                     false
                     (cond ((Nat.beq L L) && ((Nat.ble (1 + (r1.n - 1)) r1.n) && (Nat.ble (0 + r2.n) r2.n)))
                      (q (OS.mk L cp (mkg k c) (read0U u) (some (Row.mk (r1.n - 1) (fun j => (r1.f (1 + j))))) (some (Row.mk r2.n (fun j => (r2.f (0 + j))))) ov (IntKind.wrap .i64 (i + 1))))
                      false))))
                  false)
                 false)
                (cond (okU (read0U u))
                 (cond ((read0U u).rx.n != ((r1.n : Nat) : Int))
                  false
                  (cond ((read0U u).tx.n != ((r2.n : Nat) : Int))
                   false
                   (cond (!((read0U u).ov == ov))
                    false
                    (cond ((Nat.beq L L) && ((Nat.ble (0 + r1.n) r1.n) && (Nat.ble (0 + r2.n) r2.n)))
                     (q (OS.mk L cp (mkg k c) (read0U u) (some (Row.mk r1.n (fun j => (r1.f (0 + j))))) (some (Row.mk r2.n (fun j => (r2.f (0 + j))))) ov (IntKind.wrap .i64 (i + 1))))
                     false))))
                 false)))
              (cond (decide (((r1.n : Nat) : Int) > 0))
               (cond (decide (1 ≤ ((r1.n : Nat) : Int)))
                (cond (okU (read0U u))
                 (cond ((read0U u).rx.n != (((r1.n - 1) : Nat) : Int))
                  false
                  (cond ((read0U u).tx.n != ((r2.n : Nat) : Int))
                   false
                   (cond (!((read0U u).ov == ov))
                    false
                    (cond ((Nat.beq L L) && ((Nat.ble (1 + (r1.n - 1)) r1.n) && (Nat.ble (0 + r2.n) r2.n)))
                     (q (OS.mk L cp (mkg k c) (read0U u) (some (Row.mk (r1.n - 1) (fun j => (r1.f (1 + j))))) (some (Row.mk r2.n (fun j => (r2.f (0 + j))))) ov (IntKind.wrap .i64 (i + 1))))
                     false))))
                 false)
                false)
               (cond (okU (read0U u))
                (cond ((read0U u).rx.n != ((r1.n : Nat) : Int))
                 false
                 (cond ((read0U u).tx.n != ((r2.n : Nat) : Int))
                  false
                  (cond (!((read0U u).ov == ov))
                   false
                   (cond ((Nat.beq L L) && ((Nat.ble (0 + r1.n) r1.n) && (Nat.ble (0 + r2.n) r2.n)))
                    (q (OS.mk L cp (mkg k c) (read0U u) (some (Row.mk r1.n (fun j => (r1.f (0 + j))))) (some (Row.mk r2.n (fun j => (r2.f (0 + j))))) ov (IntKind.wrap .i64 (i + 1))))
                    false))))
                false))))
            false)
           (cond (tickB u)
            (cond (((r2.n : Nat) : Int) == 0)
             false
             (cond (inB 0 r2.n)
              (cond (Nat.blt 0 r2.n)
               (cond ((tickC u) != (r2.f 0))
                false
                (cond (u.wt != 3)
                 false
                 (cond (decide (1 ≤ ((r2.n : Nat) : Int)))
                  (cond (okU (tickU u))
                   (cond ((tickU u).rx.n != ((r1.n : Nat) : Int))
                    false
                    (cond ((tickU u).tx.n != (((r2.n - 1) : Nat) : Int))
                     false
                     (cond (!((tickU u).ov == ov))
                      false
                      (cond ((Nat.beq L L) && ((Nat.ble (0 + r1.n) r1.n) && (Nat.ble (1 + (r2.n - 1)) r2.n)))
                       (q (OS.mk L cp (mkg k c) (tickU u) (some (Row.mk r1.n (fun j => (r1.f (0 + j))))) (some (Row.mk (r2.n - 1) (fun j => (r2.f (1 + j))))) ov (IntKind.wrap .i64 (i + 1))))
                       false))))
                   false)
                  false)))
               false)
              false))
            (cond (okU (tickU u))
             (cond ((tickU u).rx.n != ((r1.n : Nat) : Int))
              false
              (cond ((tickU u).tx.n != ((r2.n : Nat) : Int))
               false
               (cond (!((tickU u).ov == ov))
                false
                (cond ((Nat.beq L L) && ((Nat.ble (0 + r1.n) r1.n) && (Nat.ble (0 + r2.n) r2.n)))
                 (q (OS.mk L cp (mkg k c) (tickU u) (some (Row.mk r1.n (fun j => (r1.f (0 + j))))) (some (Row.mk r2.n (fun j => (r2.f (0 + j))))) ov (IntKind.wrap .i64 (i + 1))))
                 false))))
             false))))))
       (cond ((kap k i) == 1)
        (cond (inB i L)
         (cond (Nat.blt (Int.toNat i) L)
          (cond (decide (((r1.n : Nat) : Int) < 16))
           (cond (inB i L)
            (cond (Nat.blt (Int.toNat i) L)
             (cond ((Nat.ble r1.n r1.n) && ((Nat.beq (r1.n + 0) (r1.n * 1)) && (Nat.ble ((r1.n + 1) * 2) 68719476736)))
              (cond (okU (putU u (ch c i)))
               (cond ((putU u (ch c i)).rx.n != (((r1.n + 1) : Nat) : Int))
                false
                (cond ((putU u (ch c i)).tx.n != ((r2.n : Nat) : Int))
                 false
                 (cond (!((putU u (ch c i)).ov == ov))
                  false
                  (cond ((Nat.beq L L) && ((Nat.ble (0 + (r1.n + 1)) (r1.n + 1)) && (Nat.ble (0 + r2.n) r2.n)))
                   (q (OS.mk L cp (mkg k c) (putU u (ch c i)) (some (Row.mk (r1.n + 1) (fun j => (cond (Nat.blt (0 + j) r1.n) (r1.f (0 + j)) (ch c i))))) (some (Row.mk r2.n (fun j => (r2.f (0 + j))))) ov (IntKind.wrap .i64 (i + 1))))
                   false))))
               false)
              false)
             false)
            false)
           (cond (okU (putU u (ch c i)))
            (cond ((putU u (ch c i)).rx.n != ((r1.n : Nat) : Int))
             false
             (cond ((putU u (ch c i)).tx.n != ((r2.n : Nat) : Int))
              false
              (cond (!((putU u (ch c i)).ov == true))
               false
               (cond ((Nat.beq L L) && ((Nat.ble (0 + r1.n) r1.n) && (Nat.ble (0 + r2.n) r2.n)))
                (q (OS.mk L cp (mkg k c) (putU u (ch c i)) (some (Row.mk r1.n (fun j => (r1.f (0 + j))))) (some (Row.mk r2.n (fun j => (r2.f (0 + j))))) true (IntKind.wrap .i64 (i + 1))))
                false))))
            false))
          false)
         false)
        (cond ((kap k i) == 2)
         (cond ((kap k i) == 2)
          (cond (inB i L)
           (cond (Nat.blt (Int.toNat i) L)
            (cond (cond ((okU u) && (!(latch u))) (cond (decide (((r2.n : Nat) : Int) < 16)) (cond (inB i L) (cond (Nat.blt (Int.toNat i) L) (cond ((Nat.ble r2.n r2.n) && ((Nat.beq (r2.n + 0) (r2.n * 1)) && (Nat.ble ((r2.n + 1) * 2) 68719476736))) (cond (okU (write0U u (ch c i))) (cond ((write0U u (ch c i)).rx.n != ((r1.n : Nat) : Int)) false (cond ((write0U u (ch c i)).tx.n != (((r2.n + 1) : Nat) : Int)) false (cond (!((write0U u (ch c i)).ov == ov)) false (cond ((Nat.beq L L) && ((Nat.ble (0 + r1.n) r1.n) && (Nat.ble (0 + (r2.n + 1)) (r2.n + 1)))) (q (OS.mk L cp (mkg k c) (write0U u (ch c i)) (some (Row.mk r1.n (fun j => (r1.f (0 + j))))) (some (Row.mk (r2.n + 1) (fun j => (cond (Nat.blt (0 + j) r2.n) (r2.f (0 + j)) (ch c i))))) ov (IntKind.wrap .i64 (i + 1)))) false)))) false) false) false) false) (cond (okU (write0U u (ch c i))) (cond ((write0U u (ch c i)).rx.n != ((r1.n : Nat) : Int)) false (cond ((write0U u (ch c i)).tx.n != ((r2.n : Nat) : Int)) false (cond (!((write0U u (ch c i)).ov == ov)) false (cond ((Nat.beq L L) && ((Nat.ble (0 + r1.n) r1.n) && (Nat.ble (0 + r2.n) r2.n))) (q (OS.mk L cp (mkg k c) (write0U u (ch c i)) (some (Row.mk r1.n (fun j => (r1.f (0 + j))))) (some (Row.mk r2.n (fun j => (r2.f (0 + j))))) ov (IntKind.wrap .i64 (i + 1)))) false)))) false)) false)
             (cond ((okU u) && (!(latch u)))
              (cond (decide (((r2.n : Nat) : Int) < 16))
               (cond (inB i L)
                (cond (Nat.blt (Int.toNat i) L)
                 (cond ((Nat.ble r2.n r2.n) && ((Nat.beq (r2.n + 0) (r2.n * 1)) && (Nat.ble ((r2.n + 1) * 2) 68719476736)))
                  (cond (okU (write0U u (ch c i)))
                   (cond ((write0U u (ch c i)).rx.n != ((r1.n : Nat) : Int))
                    false
                    (cond ((write0U u (ch c i)).tx.n != (((r2.n + 1) : Nat) : Int))
                     false
                     (cond (!((write0U u (ch c i)).ov == ov))
                      false
                      (cond ((Nat.beq L L) && ((Nat.ble (0 + r1.n) r1.n) && (Nat.ble (0 + (r2.n + 1)) (r2.n + 1))))
                       (q (OS.mk L cp (mkg k c) (write0U u (ch c i)) (some (Row.mk r1.n (fun j => (r1.f (0 + j))))) (some (Row.mk (r2.n + 1) (fun j => (cond (Nat.blt (0 + j) r2.n) (r2.f (0 + j)) (ch c i))))) ov (IntKind.wrap .i64 (i + 1))))
                       false))))
                   false)
                  false)
                 false)
                false)
               (cond (okU (write0U u (ch c i)))
                (cond ((write0U u (ch c i)).rx.n != ((r1.n : Nat) : Int))
                 false
                 (cond ((write0U u (ch c i)).tx.n != ((r2.n : Nat) : Int))
                  false
                  (cond (!((write0U u (ch c i)).ov == ov))
                   false
                   (cond ((Nat.beq L L) && ((Nat.ble (0 + r1.n) r1.n) && (Nat.ble (0 + r2.n) r2.n)))
                    (q (OS.mk L cp (mkg k c) (write0U u (ch c i)) (some (Row.mk r1.n (fun j => (r1.f (0 + j))))) (some (Row.mk r2.n (fun j => (r2.f (0 + j))))) ov (IntKind.wrap .i64 (i + 1))))
                    false))))
                false))
              false)
             false)
            false)
           false)
          (cond ((kap k i) == 4)
           (cond ((okU u) && (!(latch u)))
            (cond (decide (((r1.n : Nat) : Int) > 0))
             (cond (inB 0 r1.n)
              (cond (Nat.blt 0 r1.n)
               (cond ((read0C u) != (r1.f 0))
                false
                (cond (((r1.n : Nat) : Int) == 0)
                 (cond ((read0C u) != 0)
                  false
                  (cond (decide (((r1.n : Nat) : Int) > 0))
                   (cond (decide (1 ≤ ((r1.n : Nat) : Int)))
                    (cond (okU (read0U u))
                     (cond ((read0U u).rx.n != (((r1.n - 1) : Nat) : Int))
                      false
                      (cond ((read0U u).tx.n != ((r2.n : Nat) : Int))
                       false
                       (cond (!((read0U u).ov == ov))
                        false
                        (cond ((Nat.beq L L) && ((Nat.ble (1 + (r1.n - 1)) r1.n) && (Nat.ble (0 + r2.n) r2.n)))
                         (q (OS.mk L cp (mkg k c) (read0U u) (some (Row.mk (r1.n - 1) (fun j => (r1.f (1 + j))))) (some (Row.mk r2.n (fun j => (r2.f (0 + j))))) ov (IntKind.wrap .i64 (i + 1))))
                         false))))
                     false)
                    false)
                   (cond (okU (read0U u))
                    (cond ((read0U u).rx.n != ((r1.n : Nat) : Int))
                     false
                     (cond ((read0U u).tx.n != ((r2.n : Nat) : Int))
                      false
                      (cond (!((read0U u).ov == ov))
                       false
                       (cond ((Nat.beq L L) && ((Nat.ble (0 + r1.n) r1.n) && (Nat.ble (0 + r2.n) r2.n)))
                        (q (OS.mk L cp (mkg k c) (read0U u) (some (Row.mk r1.n (fun j => (r1.f (0 + j))))) (some (Row.mk r2.n (fun j => (r2.f (0 + j))))) ov (IntKind.wrap .i64 (i + 1))))
                        false))))
                    false)))
                 (cond (decide (((r1.n : Nat) : Int) > 0))
                  (cond (decide (1 ≤ ((r1.n : Nat) : Int)))
                   (cond (okU (read0U u))
                    (cond ((read0U u).rx.n != (((r1.n - 1) : Nat) : Int))
                     false
                     (cond ((read0U u).tx.n != ((r2.n : Nat) : Int))
                      false
                      (cond (!((read0U u).ov == ov))
                       false
                       (cond ((Nat.beq L L) && ((Nat.ble (1 + (r1.n - 1)) r1.n) && (Nat.ble (0 + r2.n) r2.n)))
                        (q (OS.mk L cp (mkg k c) (read0U u) (some (Row.mk (r1.n - 1) (fun j => (r1.f (1 + j))))) (some (Row.mk r2.n (fun j => (r2.f (0 + j))))) ov (IntKind.wrap .i64 (i + 1))))
                        false))))
                    false)
                   false)
                  (cond (okU (read0U u))
                   (cond ((read0U u).rx.n != ((r1.n : Nat) : Int))
                    false
                    (cond ((read0U u).tx.n != ((r2.n : Nat) : Int))
                     false
                     (cond (!((read0U u).ov == ov))
                      false
                      (cond ((Nat.beq L L) && ((Nat.ble (0 + r1.n) r1.n) && (Nat.ble (0 + r2.n) r2.n)))
                       (q (OS.mk L cp (mkg k c) (read0U u) (some (Row.mk r1.n (fun j => (r1.f (0 + j))))) (some (Row.mk r2.n (fun j => (r2.f (0 + j))))) ov (IntKind.wrap .i64 (i + 1))))
                       false))))
                   false))))
               false)
              false)
             (cond (((r1.n : Nat) : Int) == 0)
              (cond ((read0C u) != 0)
               false
               (cond (decide (((r1.n : Nat) : Int) > 0))
                (cond (decide (1 ≤ ((r1.n : Nat) : Int)))
                 (cond (okU (read0U u))
                  (cond ((read0U u).rx.n != (((r1.n - 1) : Nat) : Int))
                   false
                   (cond ((read0U u).tx.n != ((r2.n : Nat) : Int))
                    false
                    (cond (!((read0U u).ov == ov))
                     false
                     (cond ((Nat.beq L L) && ((Nat.ble (1 + (r1.n - 1)) r1.n) && (Nat.ble (0 + r2.n) r2.n)))
                      (q (OS.mk L cp (mkg k c) (read0U u) (some (Row.mk (r1.n - 1) (fun j => (r1.f (1 + j))))) (some (Row.mk r2.n (fun j => (r2.f (0 + j))))) ov (IntKind.wrap .i64 (i + 1))))
                      false))))
                  false)
                 false)
                (cond (okU (read0U u))
                 (cond ((read0U u).rx.n != ((r1.n : Nat) : Int))
                  false
                  (cond ((read0U u).tx.n != ((r2.n : Nat) : Int))
                   false
                   (cond (!((read0U u).ov == ov))
                    false
                    (cond ((Nat.beq L L) && ((Nat.ble (0 + r1.n) r1.n) && (Nat.ble (0 + r2.n) r2.n)))
                     (q (OS.mk L cp (mkg k c) (read0U u) (some (Row.mk r1.n (fun j => (r1.f (0 + j))))) (some (Row.mk r2.n (fun j => (r2.f (0 + j))))) ov (IntKind.wrap .i64 (i + 1))))
                     false))))
                 false)))
              (cond (decide (((r1.n : Nat) : Int) > 0))
               (cond (decide (1 ≤ ((r1.n : Nat) : Int)))
                (cond (okU (read0U u))
                 (cond ((read0U u).rx.n != (((r1.n - 1) : Nat) : Int))
                  false
                  (cond ((read0U u).tx.n != ((r2.n : Nat) : Int))
                   false
                   (cond (!((read0U u).ov == ov))
                    false
                    (cond ((Nat.beq L L) && ((Nat.ble (1 + (r1.n - 1)) r1.n) && (Nat.ble (0 + r2.n) r2.n)))
                     (q (OS.mk L cp (mkg k c) (read0U u) (some (Row.mk (r1.n - 1) (fun j => (r1.f (1 + j))))) (some (Row.mk r2.n (fun j => (r2.f (0 + j))))) ov (IntKind.wrap .i64 (i + 1))))
                     false))))
                 false)
                false)
               (cond (okU (read0U u))
                (cond ((read0U u).rx.n != ((r1.n : Nat) : Int))
                 false
                 (cond ((read0U u).tx.n != ((r2.n : Nat) : Int))
                  false
                  (cond (!((read0U u).ov == ov))
                   false
                   (cond ((Nat.beq L L) && ((Nat.ble (0 + r1.n) r1.n) && (Nat.ble (0 + r2.n) r2.n)))
                    (q (OS.mk L cp (mkg k c) (read0U u) (some (Row.mk r1.n (fun j => (r1.f (0 + j))))) (some (Row.mk r2.n (fun j => (r2.f (0 + j))))) ov (IntKind.wrap .i64 (i + 1))))
                    false))))
                false))))
            false)
           (cond (tickB u)
            (cond (((r2.n : Nat) : Int) == 0)
             false
             (cond (inB 0 r2.n)
              (cond (Nat.blt 0 r2.n)
               (cond ((tickC u) != (r2.f 0))
                false
                (cond (u.wt != 3)
                 false
                 (cond (decide (1 ≤ ((r2.n : Nat) : Int)))
                  (cond (okU (tickU u))
                   (cond ((tickU u).rx.n != ((r1.n : Nat) : Int))
                    false
                    (cond ((tickU u).tx.n != (((r2.n - 1) : Nat) : Int))
                     false
                     (cond (!((tickU u).ov == ov))
                      false
                      (cond ((Nat.beq L L) && ((Nat.ble (0 + r1.n) r1.n) && (Nat.ble (1 + (r2.n - 1)) r2.n)))
                       (q (OS.mk L cp (mkg k c) (tickU u) (some (Row.mk r1.n (fun j => (r1.f (0 + j))))) (some (Row.mk (r2.n - 1) (fun j => (r2.f (1 + j))))) ov (IntKind.wrap .i64 (i + 1))))
                       false))))
                   false)
                  false)))
               false)
              false))
            (cond (okU (tickU u))
             (cond ((tickU u).rx.n != ((r1.n : Nat) : Int))
              false
              (cond ((tickU u).tx.n != ((r2.n : Nat) : Int))
               false
               (cond (!((tickU u).ov == ov))
                false
                (cond ((Nat.beq L L) && ((Nat.ble (0 + r1.n) r1.n) && (Nat.ble (0 + r2.n) r2.n)))
                 (q (OS.mk L cp (mkg k c) (tickU u) (some (Row.mk r1.n (fun j => (r1.f (0 + j))))) (some (Row.mk r2.n (fun j => (r2.f (0 + j))))) ov (IntKind.wrap .i64 (i + 1))))
                 false))))
             false))))
         (cond ((kap k i) == 3)
          (cond (inB i L)
           (cond (Nat.blt (Int.toNat i) L)
            (cond (cond ((okU u) && (!(latch u))) (cond (decide (((r2.n : Nat) : Int) < 16)) (cond (inB i L) (cond (Nat.blt (Int.toNat i) L) (cond ((Nat.ble r2.n r2.n) && ((Nat.beq (r2.n + 0) (r2.n * 1)) && (Nat.ble ((r2.n + 1) * 2) 68719476736))) (cond (okU (write0U u (ch c i))) (cond ((write0U u (ch c i)).rx.n != ((r1.n : Nat) : Int)) false (cond ((write0U u (ch c i)).tx.n != (((r2.n + 1) : Nat) : Int)) false (cond (!((write0U u (ch c i)).ov == ov)) false (cond ((Nat.beq L L) && ((Nat.ble (0 + r1.n) r1.n) && (Nat.ble (0 + (r2.n + 1)) (r2.n + 1)))) (q (OS.mk L cp (mkg k c) (write0U u (ch c i)) (some (Row.mk r1.n (fun j => (r1.f (0 + j))))) (some (Row.mk (r2.n + 1) (fun j => (cond (Nat.blt (0 + j) r2.n) (r2.f (0 + j)) (ch c i))))) ov (IntKind.wrap .i64 (i + 1)))) false)))) false) false) false) false) (cond (okU (write0U u (ch c i))) (cond ((write0U u (ch c i)).rx.n != ((r1.n : Nat) : Int)) false (cond ((write0U u (ch c i)).tx.n != ((r2.n : Nat) : Int)) false (cond (!((write0U u (ch c i)).ov == ov)) false (cond ((Nat.beq L L) && ((Nat.ble (0 + r1.n) r1.n) && (Nat.ble (0 + r2.n) r2.n))) (q (OS.mk L cp (mkg k c) (write0U u (ch c i)) (some (Row.mk r1.n (fun j => (r1.f (0 + j))))) (some (Row.mk r2.n (fun j => (r2.f (0 + j))))) ov (IntKind.wrap .i64 (i + 1)))) false)))) false)) false)
             (cond ((okU u) && (!(latch u)))
              (cond (decide (((r2.n : Nat) : Int) < 16))
               (cond (inB i L)
                (cond (Nat.blt (Int.toNat i) L)
                 (cond ((Nat.ble r2.n r2.n) && ((Nat.beq (r2.n + 0) (r2.n * 1)) && (Nat.ble ((r2.n + 1) * 2) 68719476736)))
                  (cond (okU (write0U u (ch c i)))
                   (cond ((write0U u (ch c i)).rx.n != ((r1.n : Nat) : Int))
                    false
                    (cond ((write0U u (ch c i)).tx.n != (((r2.n + 1) : Nat) : Int))
                     false
                     (cond (!((write0U u (ch c i)).ov == ov))
                      false
                      (cond ((Nat.beq L L) && ((Nat.ble (0 + r1.n) r1.n) && (Nat.ble (0 + (r2.n + 1)) (r2.n + 1))))
                       (q (OS.mk L cp (mkg k c) (write0U u (ch c i)) (some (Row.mk r1.n (fun j => (r1.f (0 + j))))) (some (Row.mk (r2.n + 1) (fun j => (cond (Nat.blt (0 + j) r2.n) (r2.f (0 + j)) (ch c i))))) ov (IntKind.wrap .i64 (i + 1))))
                       false))))
                   false)
                  false)
                 false)
                false)
               (cond (okU (write0U u (ch c i)))
                (cond ((write0U u (ch c i)).rx.n != ((r1.n : Nat) : Int))
                 false
                 (cond ((write0U u (ch c i)).tx.n != ((r2.n : Nat) : Int))
                  false
                  (cond (!((write0U u (ch c i)).ov == ov))
                   false
                   (cond ((Nat.beq L L) && ((Nat.ble (0 + r1.n) r1.n) && (Nat.ble (0 + r2.n) r2.n)))
                    (q (OS.mk L cp (mkg k c) (write0U u (ch c i)) (some (Row.mk r1.n (fun j => (r1.f (0 + j))))) (some (Row.mk r2.n (fun j => (r2.f (0 + j))))) ov (IntKind.wrap .i64 (i + 1))))
                    false))))
                false))
              false)
             false)
            false)
           false)
          (cond ((kap k i) == 4)
           (cond ((okU u) && (!(latch u)))
            (cond (decide (((r1.n : Nat) : Int) > 0))
             (cond (inB 0 r1.n)
              (cond (Nat.blt 0 r1.n)
               (cond ((read0C u) != (r1.f 0))
                false
                (cond (((r1.n : Nat) : Int) == 0)
                 (cond ((read0C u) != 0)
                  false
                  (cond (decide (((r1.n : Nat) : Int) > 0))
                   (cond (decide (1 ≤ ((r1.n : Nat) : Int)))
                    (cond (okU (read0U u))
                     (cond ((read0U u).rx.n != (((r1.n - 1) : Nat) : Int))
                      false
                      (cond ((read0U u).tx.n != ((r2.n : Nat) : Int))
                       false
                       (cond (!((read0U u).ov == ov))
                        false
                        (cond ((Nat.beq L L) && ((Nat.ble (1 + (r1.n - 1)) r1.n) && (Nat.ble (0 + r2.n) r2.n)))
                         (q (OS.mk L cp (mkg k c) (read0U u) (some (Row.mk (r1.n - 1) (fun j => (r1.f (1 + j))))) (some (Row.mk r2.n (fun j => (r2.f (0 + j))))) ov (IntKind.wrap .i64 (i + 1))))
                         false))))
                     false)
                    false)
                   (cond (okU (read0U u))
                    (cond ((read0U u).rx.n != ((r1.n : Nat) : Int))
                     false
                     (cond ((read0U u).tx.n != ((r2.n : Nat) : Int))
                      false
                      (cond (!((read0U u).ov == ov))
                       false
                       (cond ((Nat.beq L L) && ((Nat.ble (0 + r1.n) r1.n) && (Nat.ble (0 + r2.n) r2.n)))
                        (q (OS.mk L cp (mkg k c) (read0U u) (some (Row.mk r1.n (fun j => (r1.f (0 + j))))) (some (Row.mk r2.n (fun j => (r2.f (0 + j))))) ov (IntKind.wrap .i64 (i + 1))))
                        false))))
                    false)))
                 (cond (decide (((r1.n : Nat) : Int) > 0))
                  (cond (decide (1 ≤ ((r1.n : Nat) : Int)))
                   (cond (okU (read0U u))
                    (cond ((read0U u).rx.n != (((r1.n - 1) : Nat) : Int))
                     false
                     (cond ((read0U u).tx.n != ((r2.n : Nat) : Int))
                      false
                      (cond (!((read0U u).ov == ov))
                       false
                       (cond ((Nat.beq L L) && ((Nat.ble (1 + (r1.n - 1)) r1.n) && (Nat.ble (0 + r2.n) r2.n)))
                        (q (OS.mk L cp (mkg k c) (read0U u) (some (Row.mk (r1.n - 1) (fun j => (r1.f (1 + j))))) (some (Row.mk r2.n (fun j => (r2.f (0 + j))))) ov (IntKind.wrap .i64 (i + 1))))
                        false))))
                    false)
                   false)
                  (cond (okU (read0U u))
                   (cond ((read0U u).rx.n != ((r1.n : Nat) : Int))
                    false
                    (cond ((read0U u).tx.n != ((r2.n : Nat) : Int))
                     false
                     (cond (!((read0U u).ov == ov))
                      false
                      (cond ((Nat.beq L L) && ((Nat.ble (0 + r1.n) r1.n) && (Nat.ble (0 + r2.n) r2.n)))
                       (q (OS.mk L cp (mkg k c) (read0U u) (some (Row.mk r1.n (fun j => (r1.f (0 + j))))) (some (Row.mk r2.n (fun j => (r2.f (0 + j))))) ov (IntKind.wrap .i64 (i + 1))))
                       false))))
                   false))))
               false)
              false)
             (cond (((r1.n : Nat) : Int) == 0)
              (cond ((read0C u) != 0)
               false
               (cond (decide (((r1.n : Nat) : Int) > 0))
                (cond (decide (1 ≤ ((r1.n : Nat) : Int)))
                 (cond (okU (read0U u))
                  (cond ((read0U u).rx.n != (((r1.n - 1) : Nat) : Int))
                   false
                   (cond ((read0U u).tx.n != ((r2.n : Nat) : Int))
                    false
                    (cond (!((read0U u).ov == ov))
                     false
                     (cond ((Nat.beq L L) && ((Nat.ble (1 + (r1.n - 1)) r1.n) && (Nat.ble (0 + r2.n) r2.n)))
                      (q (OS.mk L cp (mkg k c) (read0U u) (some (Row.mk (r1.n - 1) (fun j => (r1.f (1 + j))))) (some (Row.mk r2.n (fun j => (r2.f (0 + j))))) ov (IntKind.wrap .i64 (i + 1))))
                      false))))
                  false)
                 false)
                (cond (okU (read0U u))
                 (cond ((read0U u).rx.n != ((r1.n : Nat) : Int))
                  false
                  (cond ((read0U u).tx.n != ((r2.n : Nat) : Int))
                   false
                   (cond (!((read0U u).ov == ov))
                    false
                    (cond ((Nat.beq L L) && ((Nat.ble (0 + r1.n) r1.n) && (Nat.ble (0 + r2.n) r2.n)))
                     (q (OS.mk L cp (mkg k c) (read0U u) (some (Row.mk r1.n (fun j => (r1.f (0 + j))))) (some (Row.mk r2.n (fun j => (r2.f (0 + j))))) ov (IntKind.wrap .i64 (i + 1))))
                     false))))
                 false)))
              (cond (decide (((r1.n : Nat) : Int) > 0))
               (cond (decide (1 ≤ ((r1.n : Nat) : Int)))
                (cond (okU (read0U u))
                 (cond ((read0U u).rx.n != (((r1.n - 1) : Nat) : Int))
                  false
                  (cond ((read0U u).tx.n != ((r2.n : Nat) : Int))
                   false
                   (cond (!((read0U u).ov == ov))
                    false
                    (cond ((Nat.beq L L) && ((Nat.ble (1 + (r1.n - 1)) r1.n) && (Nat.ble (0 + r2.n) r2.n)))
                     (q (OS.mk L cp (mkg k c) (read0U u) (some (Row.mk (r1.n - 1) (fun j => (r1.f (1 + j))))) (some (Row.mk r2.n (fun j => (r2.f (0 + j))))) ov (IntKind.wrap .i64 (i + 1))))
                     false))))
                 false)
                false)
               (cond (okU (read0U u))
                (cond ((read0U u).rx.n != ((r1.n : Nat) : Int))
                 false
                 (cond ((read0U u).tx.n != ((r2.n : Nat) : Int))
                  false
                  (cond (!((read0U u).ov == ov))
                   false
                   (cond ((Nat.beq L L) && ((Nat.ble (0 + r1.n) r1.n) && (Nat.ble (0 + r2.n) r2.n)))
                    (q (OS.mk L cp (mkg k c) (read0U u) (some (Row.mk r1.n (fun j => (r1.f (0 + j))))) (some (Row.mk r2.n (fun j => (r2.f (0 + j))))) ov (IntKind.wrap .i64 (i + 1))))
                    false))))
                false))))
            false)
           (cond (tickB u)
            (cond (((r2.n : Nat) : Int) == 0)
             false
             (cond (inB 0 r2.n)
              (cond (Nat.blt 0 r2.n)
               (cond ((tickC u) != (r2.f 0))
                false
                (cond (u.wt != 3)
                 false
                 (cond (decide (1 ≤ ((r2.n : Nat) : Int)))
                  (cond (okU (tickU u))
                   (cond ((tickU u).rx.n != ((r1.n : Nat) : Int))
                    false
                    (cond ((tickU u).tx.n != (((r2.n - 1) : Nat) : Int))
                     false
                     (cond (!((tickU u).ov == ov))
                      false
                      (cond ((Nat.beq L L) && ((Nat.ble (0 + r1.n) r1.n) && (Nat.ble (1 + (r2.n - 1)) r2.n)))
                       (q (OS.mk L cp (mkg k c) (tickU u) (some (Row.mk r1.n (fun j => (r1.f (0 + j))))) (some (Row.mk (r2.n - 1) (fun j => (r2.f (1 + j))))) ov (IntKind.wrap .i64 (i + 1))))
                       false))))
                   false)
                  false)))
               false)
              false))
            (cond (okU (tickU u))
             (cond ((tickU u).rx.n != ((r1.n : Nat) : Int))
              false
              (cond ((tickU u).tx.n != ((r2.n : Nat) : Int))
               false
               (cond (!((tickU u).ov == ov))
                false
                (cond ((Nat.beq L L) && ((Nat.ble (0 + r1.n) r1.n) && (Nat.ble (0 + r2.n) r2.n)))
                 (q (OS.mk L cp (mkg k c) (tickU u) (some (Row.mk r1.n (fun j => (r1.f (0 + j))))) (some (Row.mk r2.n (fun j => (r2.f (0 + j))))) ov (IntKind.wrap .i64 (i + 1))))
                 false))))
             false)))))))
      false)
     false)
    (kk (.exit 0) nilS))
   (kk (.exit 0) nilS))

set_option maxRecDepth 100000 in
theorem roundSS_run (L cp : Nat) (k c : Nat → Int) (u : Us) (r1 r2 : Row) (ov : Bool) (i : Int) (q : OS → Bool) (kk : K) : roundX ⟨L, cp, mkg k c, u, (some r1), (some r2), ov, i⟩ q kk = roundSS L cp k c u r1 r2 ov i q kk := by kernel_rfl

set_option maxRecDepth 100000 in
noncomputable def roundSN (L cp : Nat) (k c : Nat → Int) (u : Us) (r1 r2 : Row) (ov : Bool) (i : Int) (q : OS → Bool) (kk : K) : Bool :=
  (cond (decide (i < ((L : Nat) : Int)))
   (cond (decide (i < 200))
    (cond (inB i L)
     (cond (Nat.blt (Int.toNat i) L)
      (cond ((kap k i) == 0)
       (cond ((kap k i) == 0)
        (cond (inB i L)
         (cond (Nat.blt (Int.toNat i) L)
          (cond (decide (((r1.n : Nat) : Int) < 16))
           (cond (inB i L)
            (cond (Nat.blt (Int.toNat i) L)
             (cond ((Nat.ble r1.n r1.n) && ((Nat.beq (r1.n + 0) (r1.n * 1)) && (Nat.ble ((r1.n + 1) * 2) 68719476736)))
              (cond (okU (putU u (ch c i)))
               (cond ((putU u (ch c i)).rx.n != (((r1.n + 1) : Nat) : Int))
                false
                (cond ((putU u (ch c i)).tx.n != 0)
                 false
                 (cond (!((putU u (ch c i)).ov == ov))
                  false
                  (cond ((Nat.beq L L) && ((Nat.ble (0 + (r1.n + 1)) (r1.n + 1)) && true))
                   (q (OS.mk L cp (mkg k c) (putU u (ch c i)) (some (Row.mk (r1.n + 1) (fun j => (cond (Nat.blt (0 + j) r1.n) (r1.f (0 + j)) (ch c i))))) none ov (IntKind.wrap .i64 (i + 1))))
                   false))))
               false)
              false)
             false)
            false)
           (cond (okU (putU u (ch c i)))
            (cond ((putU u (ch c i)).rx.n != ((r1.n : Nat) : Int))
             false
             (cond ((putU u (ch c i)).tx.n != 0)
              false
              (cond (!((putU u (ch c i)).ov == true))
               false
               (cond ((Nat.beq L L) && ((Nat.ble (0 + r1.n) r1.n) && true))
                (q (OS.mk L cp (mkg k c) (putU u (ch c i)) (some (Row.mk r1.n (fun j => (r1.f (0 + j))))) none true (IntKind.wrap .i64 (i + 1))))
                false))))
            false))
          false)
         false)
        (cond ((kap k i) == 2)
         (cond ((kap k i) == 2)
          (cond (inB i L)
           (cond (Nat.blt (Int.toNat i) L)
            (cond (cond ((okU u) && (!(latch u))) (cond (inB i L) (cond (Nat.blt (Int.toNat i) L) (cond (okU (write0U u (ch c i))) (cond ((write0U u (ch c i)).rx.n != ((r1.n : Nat) : Int)) false (cond ((write0U u (ch c i)).tx.n != 1) false (cond (!((write0U u (ch c i)).ov == ov)) false (cond ((Nat.beq L L) && ((Nat.ble (0 + r1.n) r1.n) && true)) (q (OS.mk L cp (mkg k c) (write0U u (ch c i)) (some (Row.mk r1.n (fun j => (r1.f (0 + j))))) (some (Row.mk 1 (fun j => (ch c i)))) ov (IntKind.wrap .i64 (i + 1)))) false)))) false) false) false) false)
             (cond ((okU u) && (!(latch u)))
              (cond (inB i L)
               (cond (Nat.blt (Int.toNat i) L)
                (cond (okU (write0U u (ch c i)))
                 (cond ((write0U u (ch c i)).rx.n != ((r1.n : Nat) : Int))
                  false
                  (cond ((write0U u (ch c i)).tx.n != 1)
                   false
                   (cond (!((write0U u (ch c i)).ov == ov))
                    false
                    (cond ((Nat.beq L L) && ((Nat.ble (0 + r1.n) r1.n) && true))
                     (q (OS.mk L cp (mkg k c) (write0U u (ch c i)) (some (Row.mk r1.n (fun j => (r1.f (0 + j))))) (some (Row.mk 1 (fun j => (ch c i)))) ov (IntKind.wrap .i64 (i + 1))))
                     false))))
                 false)
                false)
               false)
              false)
             false)
            false)
           false)
          (cond ((kap k i) == 4)
           (cond ((okU u) && (!(latch u)))
            (cond (decide (((r1.n : Nat) : Int) > 0))
             (cond (inB 0 r1.n)
              (cond (Nat.blt 0 r1.n)
               (cond ((read0C u) != (r1.f 0))
                false
                (cond (((r1.n : Nat) : Int) == 0)
                 (cond ((read0C u) != 0)
                  false
                  (cond (decide (((r1.n : Nat) : Int) > 0))
                   (cond (decide (1 ≤ ((r1.n : Nat) : Int)))
                    (cond (okU (read0U u))
                     (cond ((read0U u).rx.n != (((r1.n - 1) : Nat) : Int))
                      false
                      (cond ((read0U u).tx.n != 0)
                       false
                       (cond (!((read0U u).ov == ov))
                        false
                        (cond ((Nat.beq L L) && ((Nat.ble (1 + (r1.n - 1)) r1.n) && true))
                         (q (OS.mk L cp (mkg k c) (read0U u) (some (Row.mk (r1.n - 1) (fun j => (r1.f (1 + j))))) none ov (IntKind.wrap .i64 (i + 1))))
                         false))))
                     false)
                    false)
                   (cond (okU (read0U u))
                    (cond ((read0U u).rx.n != ((r1.n : Nat) : Int))
                     false
                     (cond ((read0U u).tx.n != 0)
                      false
                      (cond (!((read0U u).ov == ov))
                       false
                       (cond ((Nat.beq L L) && ((Nat.ble (0 + r1.n) r1.n) && true))
                        (q (OS.mk L cp (mkg k c) (read0U u) (some (Row.mk r1.n (fun j => (r1.f (0 + j))))) none ov (IntKind.wrap .i64 (i + 1))))
                        false))))
                    false)))
                 (cond (decide (((r1.n : Nat) : Int) > 0))
                  (cond (decide (1 ≤ ((r1.n : Nat) : Int)))
                   (cond (okU (read0U u))
                    (cond ((read0U u).rx.n != (((r1.n - 1) : Nat) : Int))
                     false
                     (cond ((read0U u).tx.n != 0)
                      false
                      (cond (!((read0U u).ov == ov))
                       false
                       (cond ((Nat.beq L L) && ((Nat.ble (1 + (r1.n - 1)) r1.n) && true))
                        (q (OS.mk L cp (mkg k c) (read0U u) (some (Row.mk (r1.n - 1) (fun j => (r1.f (1 + j))))) none ov (IntKind.wrap .i64 (i + 1))))
                        false))))
                    false)
                   false)
                  (cond (okU (read0U u))
                   (cond ((read0U u).rx.n != ((r1.n : Nat) : Int))
                    false
                    (cond ((read0U u).tx.n != 0)
                     false
                     (cond (!((read0U u).ov == ov))
                      false
                      (cond ((Nat.beq L L) && ((Nat.ble (0 + r1.n) r1.n) && true))
                       (q (OS.mk L cp (mkg k c) (read0U u) (some (Row.mk r1.n (fun j => (r1.f (0 + j))))) none ov (IntKind.wrap .i64 (i + 1))))
                       false))))
                   false))))
               false)
              false)
             (cond (((r1.n : Nat) : Int) == 0)
              (cond ((read0C u) != 0)
               false
               (cond (decide (((r1.n : Nat) : Int) > 0))
                (cond (decide (1 ≤ ((r1.n : Nat) : Int)))
                 (cond (okU (read0U u))
                  (cond ((read0U u).rx.n != (((r1.n - 1) : Nat) : Int))
                   false
                   (cond ((read0U u).tx.n != 0)
                    false
                    (cond (!((read0U u).ov == ov))
                     false
                     (cond ((Nat.beq L L) && ((Nat.ble (1 + (r1.n - 1)) r1.n) && true))
                      (q (OS.mk L cp (mkg k c) (read0U u) (some (Row.mk (r1.n - 1) (fun j => (r1.f (1 + j))))) none ov (IntKind.wrap .i64 (i + 1))))
                      false))))
                  false)
                 false)
                (cond (okU (read0U u))
                 (cond ((read0U u).rx.n != ((r1.n : Nat) : Int))
                  false
                  (cond ((read0U u).tx.n != 0)
                   false
                   (cond (!((read0U u).ov == ov))
                    false
                    (cond ((Nat.beq L L) && ((Nat.ble (0 + r1.n) r1.n) && true))
                     (q (OS.mk L cp (mkg k c) (read0U u) (some (Row.mk r1.n (fun j => (r1.f (0 + j))))) none ov (IntKind.wrap .i64 (i + 1))))
                     false))))
                 false)))
              (cond (decide (((r1.n : Nat) : Int) > 0))
               (cond (decide (1 ≤ ((r1.n : Nat) : Int)))
                (cond (okU (read0U u))
                 (cond ((read0U u).rx.n != (((r1.n - 1) : Nat) : Int))
                  false
                  (cond ((read0U u).tx.n != 0)
                   false
                   (cond (!((read0U u).ov == ov))
                    false
                    (cond ((Nat.beq L L) && ((Nat.ble (1 + (r1.n - 1)) r1.n) && true))
                     (q (OS.mk L cp (mkg k c) (read0U u) (some (Row.mk (r1.n - 1) (fun j => (r1.f (1 + j))))) none ov (IntKind.wrap .i64 (i + 1))))
                     false))))
                 false)
                false)
               (cond (okU (read0U u))
                (cond ((read0U u).rx.n != ((r1.n : Nat) : Int))
                 false
                 (cond ((read0U u).tx.n != 0)
                  false
                  (cond (!((read0U u).ov == ov))
                   false
                   (cond ((Nat.beq L L) && ((Nat.ble (0 + r1.n) r1.n) && true))
                    (q (OS.mk L cp (mkg k c) (read0U u) (some (Row.mk r1.n (fun j => (r1.f (0 + j))))) none ov (IntKind.wrap .i64 (i + 1))))
                    false))))
                false))))
            false)
           (cond (tickB u)
            false
            (cond (okU (tickU u))
             (cond ((tickU u).rx.n != ((r1.n : Nat) : Int))
              false
              (cond ((tickU u).tx.n != 0)
               false
               (cond (!((tickU u).ov == ov))
                false
                (cond ((Nat.beq L L) && ((Nat.ble (0 + r1.n) r1.n) && true))
                 (q (OS.mk L cp (mkg k c) (tickU u) (some (Row.mk r1.n (fun j => (r1.f (0 + j))))) none ov (IntKind.wrap .i64 (i + 1))))
                 false))))
             false))))
         (cond ((kap k i) == 3)
          (cond (inB i L)
           (cond (Nat.blt (Int.toNat i) L)
            (cond (cond ((okU u) && (!(latch u))) (cond (inB i L) (cond (Nat.blt (Int.toNat i) L) (cond (okU (write0U u (ch c i))) (cond ((write0U u (ch c i)).rx.n != ((r1.n : Nat) : Int)) false (cond ((write0U u (ch c i)).tx.n != 1) false (cond (!((write0U u (ch c i)).ov == ov)) false (cond ((Nat.beq L L) && ((Nat.ble (0 + r1.n) r1.n) && true)) (q (OS.mk L cp (mkg k c) (write0U u (ch c i)) (some (Row.mk r1.n (fun j => (r1.f (0 + j))))) (some (Row.mk 1 (fun j => (ch c i)))) ov (IntKind.wrap .i64 (i + 1)))) false)))) false) false) false) false)
             (cond ((okU u) && (!(latch u)))
              (cond (inB i L)
               (cond (Nat.blt (Int.toNat i) L)
                (cond (okU (write0U u (ch c i)))
                 (cond ((write0U u (ch c i)).rx.n != ((r1.n : Nat) : Int))
                  false
                  (cond ((write0U u (ch c i)).tx.n != 1)
                   false
                   (cond (!((write0U u (ch c i)).ov == ov))
                    false
                    (cond ((Nat.beq L L) && ((Nat.ble (0 + r1.n) r1.n) && true))
                     (q (OS.mk L cp (mkg k c) (write0U u (ch c i)) (some (Row.mk r1.n (fun j => (r1.f (0 + j))))) (some (Row.mk 1 (fun j => (ch c i)))) ov (IntKind.wrap .i64 (i + 1))))
                     false))))
                 false)
                false)
               false)
              false)
             false)
            false)
           false)
          (cond ((kap k i) == 4)
           (cond ((okU u) && (!(latch u)))
            (cond (decide (((r1.n : Nat) : Int) > 0))
             (cond (inB 0 r1.n)
              (cond (Nat.blt 0 r1.n)
               (cond ((read0C u) != (r1.f 0))
                false
                (cond (((r1.n : Nat) : Int) == 0)
                 (cond ((read0C u) != 0)
                  false
                  (cond (decide (((r1.n : Nat) : Int) > 0))
                   (cond (decide (1 ≤ ((r1.n : Nat) : Int)))
                    (cond (okU (read0U u))
                     (cond ((read0U u).rx.n != (((r1.n - 1) : Nat) : Int))
                      false
                      (cond ((read0U u).tx.n != 0)
                       false
                       (cond (!((read0U u).ov == ov))
                        false
                        (cond ((Nat.beq L L) && ((Nat.ble (1 + (r1.n - 1)) r1.n) && true))
                         (q (OS.mk L cp (mkg k c) (read0U u) (some (Row.mk (r1.n - 1) (fun j => (r1.f (1 + j))))) none ov (IntKind.wrap .i64 (i + 1))))
                         false))))
                     false)
                    false)
                   (cond (okU (read0U u))
                    (cond ((read0U u).rx.n != ((r1.n : Nat) : Int))
                     false
                     (cond ((read0U u).tx.n != 0)
                      false
                      (cond (!((read0U u).ov == ov))
                       false
                       (cond ((Nat.beq L L) && ((Nat.ble (0 + r1.n) r1.n) && true))
                        (q (OS.mk L cp (mkg k c) (read0U u) (some (Row.mk r1.n (fun j => (r1.f (0 + j))))) none ov (IntKind.wrap .i64 (i + 1))))
                        false))))
                    false)))
                 (cond (decide (((r1.n : Nat) : Int) > 0))
                  (cond (decide (1 ≤ ((r1.n : Nat) : Int)))
                   (cond (okU (read0U u))
                    (cond ((read0U u).rx.n != (((r1.n - 1) : Nat) : Int))
                     false
                     (cond ((read0U u).tx.n != 0)
                      false
                      (cond (!((read0U u).ov == ov))
                       false
                       (cond ((Nat.beq L L) && ((Nat.ble (1 + (r1.n - 1)) r1.n) && true))
                        (q (OS.mk L cp (mkg k c) (read0U u) (some (Row.mk (r1.n - 1) (fun j => (r1.f (1 + j))))) none ov (IntKind.wrap .i64 (i + 1))))
                        false))))
                    false)
                   false)
                  (cond (okU (read0U u))
                   (cond ((read0U u).rx.n != ((r1.n : Nat) : Int))
                    false
                    (cond ((read0U u).tx.n != 0)
                     false
                     (cond (!((read0U u).ov == ov))
                      false
                      (cond ((Nat.beq L L) && ((Nat.ble (0 + r1.n) r1.n) && true))
                       (q (OS.mk L cp (mkg k c) (read0U u) (some (Row.mk r1.n (fun j => (r1.f (0 + j))))) none ov (IntKind.wrap .i64 (i + 1))))
                       false))))
                   false))))
               false)
              false)
             (cond (((r1.n : Nat) : Int) == 0)
              (cond ((read0C u) != 0)
               false
               (cond (decide (((r1.n : Nat) : Int) > 0))
                (cond (decide (1 ≤ ((r1.n : Nat) : Int)))
                 (cond (okU (read0U u))
                  (cond ((read0U u).rx.n != (((r1.n - 1) : Nat) : Int))
                   false
                   (cond ((read0U u).tx.n != 0)
                    false
                    (cond (!((read0U u).ov == ov))
                     false
                     (cond ((Nat.beq L L) && ((Nat.ble (1 + (r1.n - 1)) r1.n) && true))
                      (q (OS.mk L cp (mkg k c) (read0U u) (some (Row.mk (r1.n - 1) (fun j => (r1.f (1 + j))))) none ov (IntKind.wrap .i64 (i + 1))))
                      false))))
                  false)
                 false)
                (cond (okU (read0U u))
                 (cond ((read0U u).rx.n != ((r1.n : Nat) : Int))
                  false
                  (cond ((read0U u).tx.n != 0)
                   false
                   (cond (!((read0U u).ov == ov))
                    false
                    (cond ((Nat.beq L L) && ((Nat.ble (0 + r1.n) r1.n) && true))
                     (q (OS.mk L cp (mkg k c) (read0U u) (some (Row.mk r1.n (fun j => (r1.f (0 + j))))) none ov (IntKind.wrap .i64 (i + 1))))
                     false))))
                 false)))
              (cond (decide (((r1.n : Nat) : Int) > 0))
               (cond (decide (1 ≤ ((r1.n : Nat) : Int)))
                (cond (okU (read0U u))
                 (cond ((read0U u).rx.n != (((r1.n - 1) : Nat) : Int))
                  false
                  (cond ((read0U u).tx.n != 0)
                   false
                   (cond (!((read0U u).ov == ov))
                    false
                    (cond ((Nat.beq L L) && ((Nat.ble (1 + (r1.n - 1)) r1.n) && true))
                     (q (OS.mk L cp (mkg k c) (read0U u) (some (Row.mk (r1.n - 1) (fun j => (r1.f (1 + j))))) none ov (IntKind.wrap .i64 (i + 1))))
                     false))))
                 false)
                false)
               (cond (okU (read0U u))
                (cond ((read0U u).rx.n != ((r1.n : Nat) : Int))
                 false
                 (cond ((read0U u).tx.n != 0)
                  false
                  (cond (!((read0U u).ov == ov))
                   false
                   (cond ((Nat.beq L L) && ((Nat.ble (0 + r1.n) r1.n) && true))
                    (q (OS.mk L cp (mkg k c) (read0U u) (some (Row.mk r1.n (fun j => (r1.f (0 + j))))) none ov (IntKind.wrap .i64 (i + 1))))
                    false))))
                false))))
            false)
           (cond (tickB u)
            false
            (cond (okU (tickU u))
             (cond ((tickU u).rx.n != ((r1.n : Nat) : Int))
              false
              (cond ((tickU u).tx.n != 0)
               false
               (cond (!((tickU u).ov == ov))
                false
                (cond ((Nat.beq L L) && ((Nat.ble (0 + r1.n) r1.n) && true))
                 (q (OS.mk L cp (mkg k c) (tickU u) (some (Row.mk r1.n (fun j => (r1.f (0 + j))))) none ov (IntKind.wrap .i64 (i + 1))))
                 false))))
             false))))))
       (cond ((kap k i) == 1)
        (cond (inB i L)
         (cond (Nat.blt (Int.toNat i) L)
          (cond (decide (((r1.n : Nat) : Int) < 16))
           (cond (inB i L)
            (cond (Nat.blt (Int.toNat i) L)
             (cond ((Nat.ble r1.n r1.n) && ((Nat.beq (r1.n + 0) (r1.n * 1)) && (Nat.ble ((r1.n + 1) * 2) 68719476736)))
              (cond (okU (putU u (ch c i)))
               (cond ((putU u (ch c i)).rx.n != (((r1.n + 1) : Nat) : Int))
                false
                (cond ((putU u (ch c i)).tx.n != 0)
                 false
                 (cond (!((putU u (ch c i)).ov == ov))
                  false
                  (cond ((Nat.beq L L) && ((Nat.ble (0 + (r1.n + 1)) (r1.n + 1)) && true))
                   (q (OS.mk L cp (mkg k c) (putU u (ch c i)) (some (Row.mk (r1.n + 1) (fun j => (cond (Nat.blt (0 + j) r1.n) (r1.f (0 + j)) (ch c i))))) none ov (IntKind.wrap .i64 (i + 1))))
                   false))))
               false)
              false)
             false)
            false)
           (cond (okU (putU u (ch c i)))
            (cond ((putU u (ch c i)).rx.n != ((r1.n : Nat) : Int))
             false
             (cond ((putU u (ch c i)).tx.n != 0)
              false
              (cond (!((putU u (ch c i)).ov == true))
               false
               (cond ((Nat.beq L L) && ((Nat.ble (0 + r1.n) r1.n) && true))
                (q (OS.mk L cp (mkg k c) (putU u (ch c i)) (some (Row.mk r1.n (fun j => (r1.f (0 + j))))) none true (IntKind.wrap .i64 (i + 1))))
                false))))
            false))
          false)
         false)
        (cond ((kap k i) == 2)
         (cond ((kap k i) == 2)
          (cond (inB i L)
           (cond (Nat.blt (Int.toNat i) L)
            (cond (cond ((okU u) && (!(latch u))) (cond (inB i L) (cond (Nat.blt (Int.toNat i) L) (cond (okU (write0U u (ch c i))) (cond ((write0U u (ch c i)).rx.n != ((r1.n : Nat) : Int)) false (cond ((write0U u (ch c i)).tx.n != 1) false (cond (!((write0U u (ch c i)).ov == ov)) false (cond ((Nat.beq L L) && ((Nat.ble (0 + r1.n) r1.n) && true)) (q (OS.mk L cp (mkg k c) (write0U u (ch c i)) (some (Row.mk r1.n (fun j => (r1.f (0 + j))))) (some (Row.mk 1 (fun j => (ch c i)))) ov (IntKind.wrap .i64 (i + 1)))) false)))) false) false) false) false)
             (cond ((okU u) && (!(latch u)))
              (cond (inB i L)
               (cond (Nat.blt (Int.toNat i) L)
                (cond (okU (write0U u (ch c i)))
                 (cond ((write0U u (ch c i)).rx.n != ((r1.n : Nat) : Int))
                  false
                  (cond ((write0U u (ch c i)).tx.n != 1)
                   false
                   (cond (!((write0U u (ch c i)).ov == ov))
                    false
                    (cond ((Nat.beq L L) && ((Nat.ble (0 + r1.n) r1.n) && true))
                     (q (OS.mk L cp (mkg k c) (write0U u (ch c i)) (some (Row.mk r1.n (fun j => (r1.f (0 + j))))) (some (Row.mk 1 (fun j => (ch c i)))) ov (IntKind.wrap .i64 (i + 1))))
                     false))))
                 false)
                false)
               false)
              false)
             false)
            false)
           false)
          (cond ((kap k i) == 4)
           (cond ((okU u) && (!(latch u)))
            (cond (decide (((r1.n : Nat) : Int) > 0))
             (cond (inB 0 r1.n)
              (cond (Nat.blt 0 r1.n)
               (cond ((read0C u) != (r1.f 0))
                false
                (cond (((r1.n : Nat) : Int) == 0)
                 (cond ((read0C u) != 0)
                  false
                  (cond (decide (((r1.n : Nat) : Int) > 0))
                   (cond (decide (1 ≤ ((r1.n : Nat) : Int)))
                    (cond (okU (read0U u))
                     (cond ((read0U u).rx.n != (((r1.n - 1) : Nat) : Int))
                      false
                      (cond ((read0U u).tx.n != 0)
                       false
                       (cond (!((read0U u).ov == ov))
                        false
                        (cond ((Nat.beq L L) && ((Nat.ble (1 + (r1.n - 1)) r1.n) && true))
                         (q (OS.mk L cp (mkg k c) (read0U u) (some (Row.mk (r1.n - 1) (fun j => (r1.f (1 + j))))) none ov (IntKind.wrap .i64 (i + 1))))
                         false))))
                     false)
                    false)
                   (cond (okU (read0U u))
                    (cond ((read0U u).rx.n != ((r1.n : Nat) : Int))
                     false
                     (cond ((read0U u).tx.n != 0)
                      false
                      (cond (!((read0U u).ov == ov))
                       false
                       (cond ((Nat.beq L L) && ((Nat.ble (0 + r1.n) r1.n) && true))
                        (q (OS.mk L cp (mkg k c) (read0U u) (some (Row.mk r1.n (fun j => (r1.f (0 + j))))) none ov (IntKind.wrap .i64 (i + 1))))
                        false))))
                    false)))
                 (cond (decide (((r1.n : Nat) : Int) > 0))
                  (cond (decide (1 ≤ ((r1.n : Nat) : Int)))
                   (cond (okU (read0U u))
                    (cond ((read0U u).rx.n != (((r1.n - 1) : Nat) : Int))
                     false
                     (cond ((read0U u).tx.n != 0)
                      false
                      (cond (!((read0U u).ov == ov))
                       false
                       (cond ((Nat.beq L L) && ((Nat.ble (1 + (r1.n - 1)) r1.n) && true))
                        (q (OS.mk L cp (mkg k c) (read0U u) (some (Row.mk (r1.n - 1) (fun j => (r1.f (1 + j))))) none ov (IntKind.wrap .i64 (i + 1))))
                        false))))
                    false)
                   false)
                  (cond (okU (read0U u))
                   (cond ((read0U u).rx.n != ((r1.n : Nat) : Int))
                    false
                    (cond ((read0U u).tx.n != 0)
                     false
                     (cond (!((read0U u).ov == ov))
                      false
                      (cond ((Nat.beq L L) && ((Nat.ble (0 + r1.n) r1.n) && true))
                       (q (OS.mk L cp (mkg k c) (read0U u) (some (Row.mk r1.n (fun j => (r1.f (0 + j))))) none ov (IntKind.wrap .i64 (i + 1))))
                       false))))
                   false))))
               false)
              false)
             (cond (((r1.n : Nat) : Int) == 0)
              (cond ((read0C u) != 0)
               false
               (cond (decide (((r1.n : Nat) : Int) > 0))
                (cond (decide (1 ≤ ((r1.n : Nat) : Int)))
                 (cond (okU (read0U u))
                  (cond ((read0U u).rx.n != (((r1.n - 1) : Nat) : Int))
                   false
                   (cond ((read0U u).tx.n != 0)
                    false
                    (cond (!((read0U u).ov == ov))
                     false
                     (cond ((Nat.beq L L) && ((Nat.ble (1 + (r1.n - 1)) r1.n) && true))
                      (q (OS.mk L cp (mkg k c) (read0U u) (some (Row.mk (r1.n - 1) (fun j => (r1.f (1 + j))))) none ov (IntKind.wrap .i64 (i + 1))))
                      false))))
                  false)
                 false)
                (cond (okU (read0U u))
                 (cond ((read0U u).rx.n != ((r1.n : Nat) : Int))
                  false
                  (cond ((read0U u).tx.n != 0)
                   false
                   (cond (!((read0U u).ov == ov))
                    false
                    (cond ((Nat.beq L L) && ((Nat.ble (0 + r1.n) r1.n) && true))
                     (q (OS.mk L cp (mkg k c) (read0U u) (some (Row.mk r1.n (fun j => (r1.f (0 + j))))) none ov (IntKind.wrap .i64 (i + 1))))
                     false))))
                 false)))
              (cond (decide (((r1.n : Nat) : Int) > 0))
               (cond (decide (1 ≤ ((r1.n : Nat) : Int)))
                (cond (okU (read0U u))
                 (cond ((read0U u).rx.n != (((r1.n - 1) : Nat) : Int))
                  false
                  (cond ((read0U u).tx.n != 0)
                   false
                   (cond (!((read0U u).ov == ov))
                    false
                    (cond ((Nat.beq L L) && ((Nat.ble (1 + (r1.n - 1)) r1.n) && true))
                     (q (OS.mk L cp (mkg k c) (read0U u) (some (Row.mk (r1.n - 1) (fun j => (r1.f (1 + j))))) none ov (IntKind.wrap .i64 (i + 1))))
                     false))))
                 false)
                false)
               (cond (okU (read0U u))
                (cond ((read0U u).rx.n != ((r1.n : Nat) : Int))
                 false
                 (cond ((read0U u).tx.n != 0)
                  false
                  (cond (!((read0U u).ov == ov))
                   false
                   (cond ((Nat.beq L L) && ((Nat.ble (0 + r1.n) r1.n) && true))
                    (q (OS.mk L cp (mkg k c) (read0U u) (some (Row.mk r1.n (fun j => (r1.f (0 + j))))) none ov (IntKind.wrap .i64 (i + 1))))
                    false))))
                false))))
            false)
           (cond (tickB u)
            false
            (cond (okU (tickU u))
             (cond ((tickU u).rx.n != ((r1.n : Nat) : Int))
              false
              (cond ((tickU u).tx.n != 0)
               false
               (cond (!((tickU u).ov == ov))
                false
                (cond ((Nat.beq L L) && ((Nat.ble (0 + r1.n) r1.n) && true))
                 (q (OS.mk L cp (mkg k c) (tickU u) (some (Row.mk r1.n (fun j => (r1.f (0 + j))))) none ov (IntKind.wrap .i64 (i + 1))))
                 false))))
             false))))
         (cond ((kap k i) == 3)
          (cond (inB i L)
           (cond (Nat.blt (Int.toNat i) L)
            (cond (cond ((okU u) && (!(latch u))) (cond (inB i L) (cond (Nat.blt (Int.toNat i) L) (cond (okU (write0U u (ch c i))) (cond ((write0U u (ch c i)).rx.n != ((r1.n : Nat) : Int)) false (cond ((write0U u (ch c i)).tx.n != 1) false (cond (!((write0U u (ch c i)).ov == ov)) false (cond ((Nat.beq L L) && ((Nat.ble (0 + r1.n) r1.n) && true)) (q (OS.mk L cp (mkg k c) (write0U u (ch c i)) (some (Row.mk r1.n (fun j => (r1.f (0 + j))))) (some (Row.mk 1 (fun j => (ch c i)))) ov (IntKind.wrap .i64 (i + 1)))) false)))) false) false) false) false)
             (cond ((okU u) && (!(latch u)))
              (cond (inB i L)
               (cond (Nat.blt (Int.toNat i) L)
                (cond (okU (write0U u (ch c i)))
                 (cond ((write0U u (ch c i)).rx.n != ((r1.n : Nat) : Int))
                  false
                  (cond ((write0U u (ch c i)).tx.n != 1)
                   false
                   (cond (!((write0U u (ch c i)).ov == ov))
                    false
                    (cond ((Nat.beq L L) && ((Nat.ble (0 + r1.n) r1.n) && true))
                     (q (OS.mk L cp (mkg k c) (write0U u (ch c i)) (some (Row.mk r1.n (fun j => (r1.f (0 + j))))) (some (Row.mk 1 (fun j => (ch c i)))) ov (IntKind.wrap .i64 (i + 1))))
                     false))))
                 false)
                false)
               false)
              false)
             false)
            false)
           false)
          (cond ((kap k i) == 4)
           (cond ((okU u) && (!(latch u)))
            (cond (decide (((r1.n : Nat) : Int) > 0))
             (cond (inB 0 r1.n)
              (cond (Nat.blt 0 r1.n)
               (cond ((read0C u) != (r1.f 0))
                false
                (cond (((r1.n : Nat) : Int) == 0)
                 (cond ((read0C u) != 0)
                  false
                  (cond (decide (((r1.n : Nat) : Int) > 0))
                   (cond (decide (1 ≤ ((r1.n : Nat) : Int)))
                    (cond (okU (read0U u))
                     (cond ((read0U u).rx.n != (((r1.n - 1) : Nat) : Int))
                      false
                      (cond ((read0U u).tx.n != 0)
                       false
                       (cond (!((read0U u).ov == ov))
                        false
                        (cond ((Nat.beq L L) && ((Nat.ble (1 + (r1.n - 1)) r1.n) && true))
                         (q (OS.mk L cp (mkg k c) (read0U u) (some (Row.mk (r1.n - 1) (fun j => (r1.f (1 + j))))) none ov (IntKind.wrap .i64 (i + 1))))
                         false))))
                     false)
                    false)
                   (cond (okU (read0U u))
                    (cond ((read0U u).rx.n != ((r1.n : Nat) : Int))
                     false
                     (cond ((read0U u).tx.n != 0)
                      false
                      (cond (!((read0U u).ov == ov))
                       false
                       (cond ((Nat.beq L L) && ((Nat.ble (0 + r1.n) r1.n) && true))
                        (q (OS.mk L cp (mkg k c) (read0U u) (some (Row.mk r1.n (fun j => (r1.f (0 + j))))) none ov (IntKind.wrap .i64 (i + 1))))
                        false))))
                    false)))
                 (cond (decide (((r1.n : Nat) : Int) > 0))
                  (cond (decide (1 ≤ ((r1.n : Nat) : Int)))
                   (cond (okU (read0U u))
                    (cond ((read0U u).rx.n != (((r1.n - 1) : Nat) : Int))
                     false
                     (cond ((read0U u).tx.n != 0)
                      false
                      (cond (!((read0U u).ov == ov))
                       false
                       (cond ((Nat.beq L L) && ((Nat.ble (1 + (r1.n - 1)) r1.n) && true))
                        (q (OS.mk L cp (mkg k c) (read0U u) (some (Row.mk (r1.n - 1) (fun j => (r1.f (1 + j))))) none ov (IntKind.wrap .i64 (i + 1))))
                        false))))
                    false)
                   false)
                  (cond (okU (read0U u))
                   (cond ((read0U u).rx.n != ((r1.n : Nat) : Int))
                    false
                    (cond ((read0U u).tx.n != 0)
                     false
                     (cond (!((read0U u).ov == ov))
                      false
                      (cond ((Nat.beq L L) && ((Nat.ble (0 + r1.n) r1.n) && true))
                       (q (OS.mk L cp (mkg k c) (read0U u) (some (Row.mk r1.n (fun j => (r1.f (0 + j))))) none ov (IntKind.wrap .i64 (i + 1))))
                       false))))
                   false))))
               false)
              false)
             (cond (((r1.n : Nat) : Int) == 0)
              (cond ((read0C u) != 0)
               false
               (cond (decide (((r1.n : Nat) : Int) > 0))
                (cond (decide (1 ≤ ((r1.n : Nat) : Int)))
                 (cond (okU (read0U u))
                  (cond ((read0U u).rx.n != (((r1.n - 1) : Nat) : Int))
                   false
                   (cond ((read0U u).tx.n != 0)
                    false
                    (cond (!((read0U u).ov == ov))
                     false
                     (cond ((Nat.beq L L) && ((Nat.ble (1 + (r1.n - 1)) r1.n) && true))
                      (q (OS.mk L cp (mkg k c) (read0U u) (some (Row.mk (r1.n - 1) (fun j => (r1.f (1 + j))))) none ov (IntKind.wrap .i64 (i + 1))))
                      false))))
                  false)
                 false)
                (cond (okU (read0U u))
                 (cond ((read0U u).rx.n != ((r1.n : Nat) : Int))
                  false
                  (cond ((read0U u).tx.n != 0)
                   false
                   (cond (!((read0U u).ov == ov))
                    false
                    (cond ((Nat.beq L L) && ((Nat.ble (0 + r1.n) r1.n) && true))
                     (q (OS.mk L cp (mkg k c) (read0U u) (some (Row.mk r1.n (fun j => (r1.f (0 + j))))) none ov (IntKind.wrap .i64 (i + 1))))
                     false))))
                 false)))
              (cond (decide (((r1.n : Nat) : Int) > 0))
               (cond (decide (1 ≤ ((r1.n : Nat) : Int)))
                (cond (okU (read0U u))
                 (cond ((read0U u).rx.n != (((r1.n - 1) : Nat) : Int))
                  false
                  (cond ((read0U u).tx.n != 0)
                   false
                   (cond (!((read0U u).ov == ov))
                    false
                    (cond ((Nat.beq L L) && ((Nat.ble (1 + (r1.n - 1)) r1.n) && true))
                     (q (OS.mk L cp (mkg k c) (read0U u) (some (Row.mk (r1.n - 1) (fun j => (r1.f (1 + j))))) none ov (IntKind.wrap .i64 (i + 1))))
                     false))))
                 false)
                false)
               (cond (okU (read0U u))
                (cond ((read0U u).rx.n != ((r1.n : Nat) : Int))
                 false
                 (cond ((read0U u).tx.n != 0)
                  false
                  (cond (!((read0U u).ov == ov))
                   false
                   (cond ((Nat.beq L L) && ((Nat.ble (0 + r1.n) r1.n) && true))
                    (q (OS.mk L cp (mkg k c) (read0U u) (some (Row.mk r1.n (fun j => (r1.f (0 + j))))) none ov (IntKind.wrap .i64 (i + 1))))
                    false))))
                false))))
            false)
           (cond (tickB u)
            false
            (cond (okU (tickU u))
             (cond ((tickU u).rx.n != ((r1.n : Nat) : Int))
              false
              (cond ((tickU u).tx.n != 0)
               false
               (cond (!((tickU u).ov == ov))
                false
                (cond ((Nat.beq L L) && ((Nat.ble (0 + r1.n) r1.n) && true))
                 (q (OS.mk L cp (mkg k c) (tickU u) (some (Row.mk r1.n (fun j => (r1.f (0 + j))))) none ov (IntKind.wrap .i64 (i + 1))))
                 false))))
             false)))))))
      false)
     false)
    (kk (.exit 0) nilS))
   (kk (.exit 0) nilS))

set_option maxRecDepth 100000 in
theorem roundSN_run (L cp : Nat) (k c : Nat → Int) (u : Us) (r1 r2 : Row) (ov : Bool) (i : Int) (q : OS → Bool) (kk : K) : roundX ⟨L, cp, mkg k c, u, (some r1), none, ov, i⟩ q kk = roundSN L cp k c u r1 r2 ov i q kk := by kernel_rfl

set_option maxRecDepth 100000 in
noncomputable def roundNS (L cp : Nat) (k c : Nat → Int) (u : Us) (r1 r2 : Row) (ov : Bool) (i : Int) (q : OS → Bool) (kk : K) : Bool :=
  (cond (decide (i < ((L : Nat) : Int)))
   (cond (decide (i < 200))
    (cond (inB i L)
     (cond (Nat.blt (Int.toNat i) L)
      (cond ((kap k i) == 0)
       (cond ((kap k i) == 0)
        (cond (inB i L)
         (cond (Nat.blt (Int.toNat i) L)
          (cond (inB i L)
           (cond (Nat.blt (Int.toNat i) L)
            (cond (okU (putU u (ch c i)))
             (cond ((putU u (ch c i)).rx.n != 1)
              false
              (cond ((putU u (ch c i)).tx.n != ((r2.n : Nat) : Int))
               false
               (cond (!((putU u (ch c i)).ov == ov))
                false
                (cond ((Nat.beq L L) && (Nat.ble (0 + r2.n) r2.n))
                 (q (OS.mk L cp (mkg k c) (putU u (ch c i)) (some (Row.mk 1 (fun j => (ch c i)))) (some (Row.mk r2.n (fun j => (r2.f (0 + j))))) ov (IntKind.wrap .i64 (i + 1))))
                 false))))
             false)
            false)
           false)
          false)
         false)
        (cond ((kap k i) == 2)
         (cond ((kap k i) == 2)
          (cond (inB i L)
           (cond (Nat.blt (Int.toNat i) L)
            (cond (cond ((okU u) && (!(latch u))) (cond (decide (((r2.n : Nat) : Int) < 16)) (cond (inB i L) (cond (Nat.blt (Int.toNat i) L) (cond ((Nat.ble r2.n r2.n) && ((Nat.beq (r2.n + 0) (r2.n * 1)) && (Nat.ble ((r2.n + 1) * 2) 68719476736))) (cond (okU (write0U u (ch c i))) (cond ((write0U u (ch c i)).rx.n != 0) false (cond ((write0U u (ch c i)).tx.n != (((r2.n + 1) : Nat) : Int)) false (cond (!((write0U u (ch c i)).ov == ov)) false (cond ((Nat.beq L L) && (Nat.ble (0 + (r2.n + 1)) (r2.n + 1))) (q (OS.mk L cp (mkg k c) (write0U u (ch c i)) none (some (Row.mk (r2.n + 1) (fun j => (cond (Nat.blt (0 + j) r2.n) (r2.f (0 + j)) (ch c i))))) ov (IntKind.wrap .i64 (i + 1)))) false)))) false) false) false) false) (cond (okU (write0U u (ch c i))) (cond ((write0U u (ch c i)).rx.n != 0) false (cond ((write0U u (ch c i)).tx.n != ((r2.n : Nat) : Int)) false (cond (!((write0U u (ch c i)).ov == ov)) false (cond ((Nat.beq L L) && (Nat.ble (0 + r2.n) r2.n)) (q (OS.mk L cp (mkg k c) (write0U u (ch c i)) none (some (Row.mk r2.n (fun j => (r2.f (0 + j))))) ov (IntKind.wrap .i64 (i + 1)))) false)))) false)) false)
             (cond ((okU u) && (!(latch u)))
              (cond (decide (((r2.n : Nat) : Int) < 16))
               (cond (inB i L)
                (cond (Nat.blt (Int.toNat i) L)
                 (cond ((Nat.ble r2.n r2.n) && ((Nat.beq (r2.n + 0) (r2.n * 1)) && (Nat.ble ((r2.n + 1) * 2) 68719476736)))
                  (cond (okU (write0U u (ch c i)))
                   (cond ((write0U u (ch c i)).rx.n != 0)
                    false
                    (cond ((write0U u (ch c i)).tx.n != (((r2.n + 1) : Nat) : Int))
                     false
                     (cond (!((write0U u (ch c i)).ov == ov))
                      false
                      (cond ((Nat.beq L L) && (Nat.ble (0 + (r2.n + 1)) (r2.n + 1)))
                       (q (OS.mk L cp (mkg k c) (write0U u (ch c i)) none (some (Row.mk (r2.n + 1) (fun j => (cond (Nat.blt (0 + j) r2.n) (r2.f (0 + j)) (ch c i))))) ov (IntKind.wrap .i64 (i + 1))))
                       false))))
                   false)
                  false)
                 false)
                false)
               (cond (okU (write0U u (ch c i)))
                (cond ((write0U u (ch c i)).rx.n != 0)
                 false
                 (cond ((write0U u (ch c i)).tx.n != ((r2.n : Nat) : Int))
                  false
                  (cond (!((write0U u (ch c i)).ov == ov))
                   false
                   (cond ((Nat.beq L L) && (Nat.ble (0 + r2.n) r2.n))
                    (q (OS.mk L cp (mkg k c) (write0U u (ch c i)) none (some (Row.mk r2.n (fun j => (r2.f (0 + j))))) ov (IntKind.wrap .i64 (i + 1))))
                    false))))
                false))
              false)
             false)
            false)
           false)
          (cond ((kap k i) == 4)
           (cond ((okU u) && (!(latch u)))
            (cond ((read0C u) != 0)
             false
             (cond (okU (read0U u))
              (cond ((read0U u).rx.n != 0)
               false
               (cond ((read0U u).tx.n != ((r2.n : Nat) : Int))
                false
                (cond (!((read0U u).ov == ov))
                 false
                 (cond ((Nat.beq L L) && (Nat.ble (0 + r2.n) r2.n))
                  (q (OS.mk L cp (mkg k c) (read0U u) none (some (Row.mk r2.n (fun j => (r2.f (0 + j))))) ov (IntKind.wrap .i64 (i + 1))))
                  false))))
              false))
            false)
           (cond (tickB u)
            (cond (((r2.n : Nat) : Int) == 0)
             false
             (cond (inB 0 r2.n)
              (cond (Nat.blt 0 r2.n)
               (cond ((tickC u) != (r2.f 0))
                false
                (cond (u.wt != 3)
                 false
                 (cond (decide (1 ≤ ((r2.n : Nat) : Int)))
                  (cond (okU (tickU u))
                   (cond ((tickU u).rx.n != 0)
                    false
                    (cond ((tickU u).tx.n != (((r2.n - 1) : Nat) : Int))
                     false
                     (cond (!((tickU u).ov == ov))
                      false
                      (cond ((Nat.beq L L) && (Nat.ble (1 + (r2.n - 1)) r2.n))
                       (q (OS.mk L cp (mkg k c) (tickU u) none (some (Row.mk (r2.n - 1) (fun j => (r2.f (1 + j))))) ov (IntKind.wrap .i64 (i + 1))))
                       false))))
                   false)
                  false)))
               false)
              false))
            (cond (okU (tickU u))
             (cond ((tickU u).rx.n != 0)
              false
              (cond ((tickU u).tx.n != ((r2.n : Nat) : Int))
               false
               (cond (!((tickU u).ov == ov))
                false
                (cond ((Nat.beq L L) && (Nat.ble (0 + r2.n) r2.n))
                 (q (OS.mk L cp (mkg k c) (tickU u) none (some (Row.mk r2.n (fun j => (r2.f (0 + j))))) ov (IntKind.wrap .i64 (i + 1))))
                 false))))
             false))))
         (cond ((kap k i) == 3)
          (cond (inB i L)
           (cond (Nat.blt (Int.toNat i) L)
            (cond (cond ((okU u) && (!(latch u))) (cond (decide (((r2.n : Nat) : Int) < 16)) (cond (inB i L) (cond (Nat.blt (Int.toNat i) L) (cond ((Nat.ble r2.n r2.n) && ((Nat.beq (r2.n + 0) (r2.n * 1)) && (Nat.ble ((r2.n + 1) * 2) 68719476736))) (cond (okU (write0U u (ch c i))) (cond ((write0U u (ch c i)).rx.n != 0) false (cond ((write0U u (ch c i)).tx.n != (((r2.n + 1) : Nat) : Int)) false (cond (!((write0U u (ch c i)).ov == ov)) false (cond ((Nat.beq L L) && (Nat.ble (0 + (r2.n + 1)) (r2.n + 1))) (q (OS.mk L cp (mkg k c) (write0U u (ch c i)) none (some (Row.mk (r2.n + 1) (fun j => (cond (Nat.blt (0 + j) r2.n) (r2.f (0 + j)) (ch c i))))) ov (IntKind.wrap .i64 (i + 1)))) false)))) false) false) false) false) (cond (okU (write0U u (ch c i))) (cond ((write0U u (ch c i)).rx.n != 0) false (cond ((write0U u (ch c i)).tx.n != ((r2.n : Nat) : Int)) false (cond (!((write0U u (ch c i)).ov == ov)) false (cond ((Nat.beq L L) && (Nat.ble (0 + r2.n) r2.n)) (q (OS.mk L cp (mkg k c) (write0U u (ch c i)) none (some (Row.mk r2.n (fun j => (r2.f (0 + j))))) ov (IntKind.wrap .i64 (i + 1)))) false)))) false)) false)
             (cond ((okU u) && (!(latch u)))
              (cond (decide (((r2.n : Nat) : Int) < 16))
               (cond (inB i L)
                (cond (Nat.blt (Int.toNat i) L)
                 (cond ((Nat.ble r2.n r2.n) && ((Nat.beq (r2.n + 0) (r2.n * 1)) && (Nat.ble ((r2.n + 1) * 2) 68719476736)))
                  (cond (okU (write0U u (ch c i)))
                   (cond ((write0U u (ch c i)).rx.n != 0)
                    false
                    (cond ((write0U u (ch c i)).tx.n != (((r2.n + 1) : Nat) : Int))
                     false
                     (cond (!((write0U u (ch c i)).ov == ov))
                      false
                      (cond ((Nat.beq L L) && (Nat.ble (0 + (r2.n + 1)) (r2.n + 1)))
                       (q (OS.mk L cp (mkg k c) (write0U u (ch c i)) none (some (Row.mk (r2.n + 1) (fun j => (cond (Nat.blt (0 + j) r2.n) (r2.f (0 + j)) (ch c i))))) ov (IntKind.wrap .i64 (i + 1))))
                       false))))
                   false)
                  false)
                 false)
                false)
               (cond (okU (write0U u (ch c i)))
                (cond ((write0U u (ch c i)).rx.n != 0)
                 false
                 (cond ((write0U u (ch c i)).tx.n != ((r2.n : Nat) : Int))
                  false
                  (cond (!((write0U u (ch c i)).ov == ov))
                   false
                   (cond ((Nat.beq L L) && (Nat.ble (0 + r2.n) r2.n))
                    (q (OS.mk L cp (mkg k c) (write0U u (ch c i)) none (some (Row.mk r2.n (fun j => (r2.f (0 + j))))) ov (IntKind.wrap .i64 (i + 1))))
                    false))))
                false))
              false)
             false)
            false)
           false)
          (cond ((kap k i) == 4)
           (cond ((okU u) && (!(latch u)))
            (cond ((read0C u) != 0)
             false
             (cond (okU (read0U u))
              (cond ((read0U u).rx.n != 0)
               false
               (cond ((read0U u).tx.n != ((r2.n : Nat) : Int))
                false
                (cond (!((read0U u).ov == ov))
                 false
                 (cond ((Nat.beq L L) && (Nat.ble (0 + r2.n) r2.n))
                  (q (OS.mk L cp (mkg k c) (read0U u) none (some (Row.mk r2.n (fun j => (r2.f (0 + j))))) ov (IntKind.wrap .i64 (i + 1))))
                  false))))
              false))
            false)
           (cond (tickB u)
            (cond (((r2.n : Nat) : Int) == 0)
             false
             (cond (inB 0 r2.n)
              (cond (Nat.blt 0 r2.n)
               (cond ((tickC u) != (r2.f 0))
                false
                (cond (u.wt != 3)
                 false
                 (cond (decide (1 ≤ ((r2.n : Nat) : Int)))
                  (cond (okU (tickU u))
                   (cond ((tickU u).rx.n != 0)
                    false
                    (cond ((tickU u).tx.n != (((r2.n - 1) : Nat) : Int))
                     false
                     (cond (!((tickU u).ov == ov))
                      false
                      (cond ((Nat.beq L L) && (Nat.ble (1 + (r2.n - 1)) r2.n))
                       (q (OS.mk L cp (mkg k c) (tickU u) none (some (Row.mk (r2.n - 1) (fun j => (r2.f (1 + j))))) ov (IntKind.wrap .i64 (i + 1))))
                       false))))
                   false)
                  false)))
               false)
              false))
            (cond (okU (tickU u))
             (cond ((tickU u).rx.n != 0)
              false
              (cond ((tickU u).tx.n != ((r2.n : Nat) : Int))
               false
               (cond (!((tickU u).ov == ov))
                false
                (cond ((Nat.beq L L) && (Nat.ble (0 + r2.n) r2.n))
                 (q (OS.mk L cp (mkg k c) (tickU u) none (some (Row.mk r2.n (fun j => (r2.f (0 + j))))) ov (IntKind.wrap .i64 (i + 1))))
                 false))))
             false))))))
       (cond ((kap k i) == 1)
        (cond (inB i L)
         (cond (Nat.blt (Int.toNat i) L)
          (cond (inB i L)
           (cond (Nat.blt (Int.toNat i) L)
            (cond (okU (putU u (ch c i)))
             (cond ((putU u (ch c i)).rx.n != 1)
              false
              (cond ((putU u (ch c i)).tx.n != ((r2.n : Nat) : Int))
               false
               (cond (!((putU u (ch c i)).ov == ov))
                false
                (cond ((Nat.beq L L) && (Nat.ble (0 + r2.n) r2.n))
                 (q (OS.mk L cp (mkg k c) (putU u (ch c i)) (some (Row.mk 1 (fun j => (ch c i)))) (some (Row.mk r2.n (fun j => (r2.f (0 + j))))) ov (IntKind.wrap .i64 (i + 1))))
                 false))))
             false)
            false)
           false)
          false)
         false)
        (cond ((kap k i) == 2)
         (cond ((kap k i) == 2)
          (cond (inB i L)
           (cond (Nat.blt (Int.toNat i) L)
            (cond (cond ((okU u) && (!(latch u))) (cond (decide (((r2.n : Nat) : Int) < 16)) (cond (inB i L) (cond (Nat.blt (Int.toNat i) L) (cond ((Nat.ble r2.n r2.n) && ((Nat.beq (r2.n + 0) (r2.n * 1)) && (Nat.ble ((r2.n + 1) * 2) 68719476736))) (cond (okU (write0U u (ch c i))) (cond ((write0U u (ch c i)).rx.n != 0) false (cond ((write0U u (ch c i)).tx.n != (((r2.n + 1) : Nat) : Int)) false (cond (!((write0U u (ch c i)).ov == ov)) false (cond ((Nat.beq L L) && (Nat.ble (0 + (r2.n + 1)) (r2.n + 1))) (q (OS.mk L cp (mkg k c) (write0U u (ch c i)) none (some (Row.mk (r2.n + 1) (fun j => (cond (Nat.blt (0 + j) r2.n) (r2.f (0 + j)) (ch c i))))) ov (IntKind.wrap .i64 (i + 1)))) false)))) false) false) false) false) (cond (okU (write0U u (ch c i))) (cond ((write0U u (ch c i)).rx.n != 0) false (cond ((write0U u (ch c i)).tx.n != ((r2.n : Nat) : Int)) false (cond (!((write0U u (ch c i)).ov == ov)) false (cond ((Nat.beq L L) && (Nat.ble (0 + r2.n) r2.n)) (q (OS.mk L cp (mkg k c) (write0U u (ch c i)) none (some (Row.mk r2.n (fun j => (r2.f (0 + j))))) ov (IntKind.wrap .i64 (i + 1)))) false)))) false)) false)
             (cond ((okU u) && (!(latch u)))
              (cond (decide (((r2.n : Nat) : Int) < 16))
               (cond (inB i L)
                (cond (Nat.blt (Int.toNat i) L)
                 (cond ((Nat.ble r2.n r2.n) && ((Nat.beq (r2.n + 0) (r2.n * 1)) && (Nat.ble ((r2.n + 1) * 2) 68719476736)))
                  (cond (okU (write0U u (ch c i)))
                   (cond ((write0U u (ch c i)).rx.n != 0)
                    false
                    (cond ((write0U u (ch c i)).tx.n != (((r2.n + 1) : Nat) : Int))
                     false
                     (cond (!((write0U u (ch c i)).ov == ov))
                      false
                      (cond ((Nat.beq L L) && (Nat.ble (0 + (r2.n + 1)) (r2.n + 1)))
                       (q (OS.mk L cp (mkg k c) (write0U u (ch c i)) none (some (Row.mk (r2.n + 1) (fun j => (cond (Nat.blt (0 + j) r2.n) (r2.f (0 + j)) (ch c i))))) ov (IntKind.wrap .i64 (i + 1))))
                       false))))
                   false)
                  false)
                 false)
                false)
               (cond (okU (write0U u (ch c i)))
                (cond ((write0U u (ch c i)).rx.n != 0)
                 false
                 (cond ((write0U u (ch c i)).tx.n != ((r2.n : Nat) : Int))
                  false
                  (cond (!((write0U u (ch c i)).ov == ov))
                   false
                   (cond ((Nat.beq L L) && (Nat.ble (0 + r2.n) r2.n))
                    (q (OS.mk L cp (mkg k c) (write0U u (ch c i)) none (some (Row.mk r2.n (fun j => (r2.f (0 + j))))) ov (IntKind.wrap .i64 (i + 1))))
                    false))))
                false))
              false)
             false)
            false)
           false)
          (cond ((kap k i) == 4)
           (cond ((okU u) && (!(latch u)))
            (cond ((read0C u) != 0)
             false
             (cond (okU (read0U u))
              (cond ((read0U u).rx.n != 0)
               false
               (cond ((read0U u).tx.n != ((r2.n : Nat) : Int))
                false
                (cond (!((read0U u).ov == ov))
                 false
                 (cond ((Nat.beq L L) && (Nat.ble (0 + r2.n) r2.n))
                  (q (OS.mk L cp (mkg k c) (read0U u) none (some (Row.mk r2.n (fun j => (r2.f (0 + j))))) ov (IntKind.wrap .i64 (i + 1))))
                  false))))
              false))
            false)
           (cond (tickB u)
            (cond (((r2.n : Nat) : Int) == 0)
             false
             (cond (inB 0 r2.n)
              (cond (Nat.blt 0 r2.n)
               (cond ((tickC u) != (r2.f 0))
                false
                (cond (u.wt != 3)
                 false
                 (cond (decide (1 ≤ ((r2.n : Nat) : Int)))
                  (cond (okU (tickU u))
                   (cond ((tickU u).rx.n != 0)
                    false
                    (cond ((tickU u).tx.n != (((r2.n - 1) : Nat) : Int))
                     false
                     (cond (!((tickU u).ov == ov))
                      false
                      (cond ((Nat.beq L L) && (Nat.ble (1 + (r2.n - 1)) r2.n))
                       (q (OS.mk L cp (mkg k c) (tickU u) none (some (Row.mk (r2.n - 1) (fun j => (r2.f (1 + j))))) ov (IntKind.wrap .i64 (i + 1))))
                       false))))
                   false)
                  false)))
               false)
              false))
            (cond (okU (tickU u))
             (cond ((tickU u).rx.n != 0)
              false
              (cond ((tickU u).tx.n != ((r2.n : Nat) : Int))
               false
               (cond (!((tickU u).ov == ov))
                false
                (cond ((Nat.beq L L) && (Nat.ble (0 + r2.n) r2.n))
                 (q (OS.mk L cp (mkg k c) (tickU u) none (some (Row.mk r2.n (fun j => (r2.f (0 + j))))) ov (IntKind.wrap .i64 (i + 1))))
                 false))))
             false))))
         (cond ((kap k i) == 3)
          (cond (inB i L)
           (cond (Nat.blt (Int.toNat i) L)
            (cond (cond ((okU u) && (!(latch u))) (cond (decide (((r2.n : Nat) : Int) < 16)) (cond (inB i L) (cond (Nat.blt (Int.toNat i) L) (cond ((Nat.ble r2.n r2.n) && ((Nat.beq (r2.n + 0) (r2.n * 1)) && (Nat.ble ((r2.n + 1) * 2) 68719476736))) (cond (okU (write0U u (ch c i))) (cond ((write0U u (ch c i)).rx.n != 0) false (cond ((write0U u (ch c i)).tx.n != (((r2.n + 1) : Nat) : Int)) false (cond (!((write0U u (ch c i)).ov == ov)) false (cond ((Nat.beq L L) && (Nat.ble (0 + (r2.n + 1)) (r2.n + 1))) (q (OS.mk L cp (mkg k c) (write0U u (ch c i)) none (some (Row.mk (r2.n + 1) (fun j => (cond (Nat.blt (0 + j) r2.n) (r2.f (0 + j)) (ch c i))))) ov (IntKind.wrap .i64 (i + 1)))) false)))) false) false) false) false) (cond (okU (write0U u (ch c i))) (cond ((write0U u (ch c i)).rx.n != 0) false (cond ((write0U u (ch c i)).tx.n != ((r2.n : Nat) : Int)) false (cond (!((write0U u (ch c i)).ov == ov)) false (cond ((Nat.beq L L) && (Nat.ble (0 + r2.n) r2.n)) (q (OS.mk L cp (mkg k c) (write0U u (ch c i)) none (some (Row.mk r2.n (fun j => (r2.f (0 + j))))) ov (IntKind.wrap .i64 (i + 1)))) false)))) false)) false)
             (cond ((okU u) && (!(latch u)))
              (cond (decide (((r2.n : Nat) : Int) < 16))
               (cond (inB i L)
                (cond (Nat.blt (Int.toNat i) L)
                 (cond ((Nat.ble r2.n r2.n) && ((Nat.beq (r2.n + 0) (r2.n * 1)) && (Nat.ble ((r2.n + 1) * 2) 68719476736)))
                  (cond (okU (write0U u (ch c i)))
                   (cond ((write0U u (ch c i)).rx.n != 0)
                    false
                    (cond ((write0U u (ch c i)).tx.n != (((r2.n + 1) : Nat) : Int))
                     false
                     (cond (!((write0U u (ch c i)).ov == ov))
                      false
                      (cond ((Nat.beq L L) && (Nat.ble (0 + (r2.n + 1)) (r2.n + 1)))
                       (q (OS.mk L cp (mkg k c) (write0U u (ch c i)) none (some (Row.mk (r2.n + 1) (fun j => (cond (Nat.blt (0 + j) r2.n) (r2.f (0 + j)) (ch c i))))) ov (IntKind.wrap .i64 (i + 1))))
                       false))))
                   false)
                  false)
                 false)
                false)
               (cond (okU (write0U u (ch c i)))
                (cond ((write0U u (ch c i)).rx.n != 0)
                 false
                 (cond ((write0U u (ch c i)).tx.n != ((r2.n : Nat) : Int))
                  false
                  (cond (!((write0U u (ch c i)).ov == ov))
                   false
                   (cond ((Nat.beq L L) && (Nat.ble (0 + r2.n) r2.n))
                    (q (OS.mk L cp (mkg k c) (write0U u (ch c i)) none (some (Row.mk r2.n (fun j => (r2.f (0 + j))))) ov (IntKind.wrap .i64 (i + 1))))
                    false))))
                false))
              false)
             false)
            false)
           false)
          (cond ((kap k i) == 4)
           (cond ((okU u) && (!(latch u)))
            (cond ((read0C u) != 0)
             false
             (cond (okU (read0U u))
              (cond ((read0U u).rx.n != 0)
               false
               (cond ((read0U u).tx.n != ((r2.n : Nat) : Int))
                false
                (cond (!((read0U u).ov == ov))
                 false
                 (cond ((Nat.beq L L) && (Nat.ble (0 + r2.n) r2.n))
                  (q (OS.mk L cp (mkg k c) (read0U u) none (some (Row.mk r2.n (fun j => (r2.f (0 + j))))) ov (IntKind.wrap .i64 (i + 1))))
                  false))))
              false))
            false)
           (cond (tickB u)
            (cond (((r2.n : Nat) : Int) == 0)
             false
             (cond (inB 0 r2.n)
              (cond (Nat.blt 0 r2.n)
               (cond ((tickC u) != (r2.f 0))
                false
                (cond (u.wt != 3)
                 false
                 (cond (decide (1 ≤ ((r2.n : Nat) : Int)))
                  (cond (okU (tickU u))
                   (cond ((tickU u).rx.n != 0)
                    false
                    (cond ((tickU u).tx.n != (((r2.n - 1) : Nat) : Int))
                     false
                     (cond (!((tickU u).ov == ov))
                      false
                      (cond ((Nat.beq L L) && (Nat.ble (1 + (r2.n - 1)) r2.n))
                       (q (OS.mk L cp (mkg k c) (tickU u) none (some (Row.mk (r2.n - 1) (fun j => (r2.f (1 + j))))) ov (IntKind.wrap .i64 (i + 1))))
                       false))))
                   false)
                  false)))
               false)
              false))
            (cond (okU (tickU u))
             (cond ((tickU u).rx.n != 0)
              false
              (cond ((tickU u).tx.n != ((r2.n : Nat) : Int))
               false
               (cond (!((tickU u).ov == ov))
                false
                (cond ((Nat.beq L L) && (Nat.ble (0 + r2.n) r2.n))
                 (q (OS.mk L cp (mkg k c) (tickU u) none (some (Row.mk r2.n (fun j => (r2.f (0 + j))))) ov (IntKind.wrap .i64 (i + 1))))
                 false))))
             false)))))))
      false)
     false)
    (kk (.exit 0) nilS))
   (kk (.exit 0) nilS))

set_option maxRecDepth 100000 in
theorem roundNS_run (L cp : Nat) (k c : Nat → Int) (u : Us) (r1 r2 : Row) (ov : Bool) (i : Int) (q : OS → Bool) (kk : K) : roundX ⟨L, cp, mkg k c, u, none, (some r2), ov, i⟩ q kk = roundNS L cp k c u r1 r2 ov i q kk := by kernel_rfl

set_option maxRecDepth 100000 in
noncomputable def roundNN (L cp : Nat) (k c : Nat → Int) (u : Us) (r1 r2 : Row) (ov : Bool) (i : Int) (q : OS → Bool) (kk : K) : Bool :=
  (cond (decide (i < ((L : Nat) : Int)))
   (cond (decide (i < 200))
    (cond (inB i L)
     (cond (Nat.blt (Int.toNat i) L)
      (cond ((kap k i) == 0)
       (cond ((kap k i) == 0)
        (cond (inB i L)
         (cond (Nat.blt (Int.toNat i) L)
          (cond (inB i L)
           (cond (Nat.blt (Int.toNat i) L)
            (cond (okU (putU u (ch c i)))
             (cond ((putU u (ch c i)).rx.n != 1)
              false
              (cond ((putU u (ch c i)).tx.n != 0)
               false
               (cond (!((putU u (ch c i)).ov == ov))
                false
                (cond ((Nat.beq L L) && true)
                 (q (OS.mk L cp (mkg k c) (putU u (ch c i)) (some (Row.mk 1 (fun j => (ch c i)))) none ov (IntKind.wrap .i64 (i + 1))))
                 false))))
             false)
            false)
           false)
          false)
         false)
        (cond ((kap k i) == 2)
         (cond ((kap k i) == 2)
          (cond (inB i L)
           (cond (Nat.blt (Int.toNat i) L)
            (cond (cond ((okU u) && (!(latch u))) (cond (inB i L) (cond (Nat.blt (Int.toNat i) L) (cond (okU (write0U u (ch c i))) (cond ((write0U u (ch c i)).rx.n != 0) false (cond ((write0U u (ch c i)).tx.n != 1) false (cond (!((write0U u (ch c i)).ov == ov)) false (cond ((Nat.beq L L) && true) (q (OS.mk L cp (mkg k c) (write0U u (ch c i)) none (some (Row.mk 1 (fun j => (ch c i)))) ov (IntKind.wrap .i64 (i + 1)))) false)))) false) false) false) false)
             (cond ((okU u) && (!(latch u)))
              (cond (inB i L)
               (cond (Nat.blt (Int.toNat i) L)
                (cond (okU (write0U u (ch c i)))
                 (cond ((write0U u (ch c i)).rx.n != 0)
                  false
                  (cond ((write0U u (ch c i)).tx.n != 1)
                   false
                   (cond (!((write0U u (ch c i)).ov == ov))
                    false
                    (cond ((Nat.beq L L) && true)
                     (q (OS.mk L cp (mkg k c) (write0U u (ch c i)) none (some (Row.mk 1 (fun j => (ch c i)))) ov (IntKind.wrap .i64 (i + 1))))
                     false))))
                 false)
                false)
               false)
              false)
             false)
            false)
           false)
          (cond ((kap k i) == 4)
           (cond ((okU u) && (!(latch u)))
            (cond ((read0C u) != 0)
             false
             (cond (okU (read0U u))
              (cond ((read0U u).rx.n != 0)
               false
               (cond ((read0U u).tx.n != 0)
                false
                (cond (!((read0U u).ov == ov))
                 false
                 (cond ((Nat.beq L L) && true)
                  (q (OS.mk L cp (mkg k c) (read0U u) none none ov (IntKind.wrap .i64 (i + 1))))
                  false))))
              false))
            false)
           (cond (tickB u)
            false
            (cond (okU (tickU u))
             (cond ((tickU u).rx.n != 0)
              false
              (cond ((tickU u).tx.n != 0)
               false
               (cond (!((tickU u).ov == ov))
                false
                (cond ((Nat.beq L L) && true)
                 (q (OS.mk L cp (mkg k c) (tickU u) none none ov (IntKind.wrap .i64 (i + 1))))
                 false))))
             false))))
         (cond ((kap k i) == 3)
          (cond (inB i L)
           (cond (Nat.blt (Int.toNat i) L)
            (cond (cond ((okU u) && (!(latch u))) (cond (inB i L) (cond (Nat.blt (Int.toNat i) L) (cond (okU (write0U u (ch c i))) (cond ((write0U u (ch c i)).rx.n != 0) false (cond ((write0U u (ch c i)).tx.n != 1) false (cond (!((write0U u (ch c i)).ov == ov)) false (cond ((Nat.beq L L) && true) (q (OS.mk L cp (mkg k c) (write0U u (ch c i)) none (some (Row.mk 1 (fun j => (ch c i)))) ov (IntKind.wrap .i64 (i + 1)))) false)))) false) false) false) false)
             (cond ((okU u) && (!(latch u)))
              (cond (inB i L)
               (cond (Nat.blt (Int.toNat i) L)
                (cond (okU (write0U u (ch c i)))
                 (cond ((write0U u (ch c i)).rx.n != 0)
                  false
                  (cond ((write0U u (ch c i)).tx.n != 1)
                   false
                   (cond (!((write0U u (ch c i)).ov == ov))
                    false
                    (cond ((Nat.beq L L) && true)
                     (q (OS.mk L cp (mkg k c) (write0U u (ch c i)) none (some (Row.mk 1 (fun j => (ch c i)))) ov (IntKind.wrap .i64 (i + 1))))
                     false))))
                 false)
                false)
               false)
              false)
             false)
            false)
           false)
          (cond ((kap k i) == 4)
           (cond ((okU u) && (!(latch u)))
            (cond ((read0C u) != 0)
             false
             (cond (okU (read0U u))
              (cond ((read0U u).rx.n != 0)
               false
               (cond ((read0U u).tx.n != 0)
                false
                (cond (!((read0U u).ov == ov))
                 false
                 (cond ((Nat.beq L L) && true)
                  (q (OS.mk L cp (mkg k c) (read0U u) none none ov (IntKind.wrap .i64 (i + 1))))
                  false))))
              false))
            false)
           (cond (tickB u)
            false
            (cond (okU (tickU u))
             (cond ((tickU u).rx.n != 0)
              false
              (cond ((tickU u).tx.n != 0)
               false
               (cond (!((tickU u).ov == ov))
                false
                (cond ((Nat.beq L L) && true)
                 (q (OS.mk L cp (mkg k c) (tickU u) none none ov (IntKind.wrap .i64 (i + 1))))
                 false))))
             false))))))
       (cond ((kap k i) == 1)
        (cond (inB i L)
         (cond (Nat.blt (Int.toNat i) L)
          (cond (inB i L)
           (cond (Nat.blt (Int.toNat i) L)
            (cond (okU (putU u (ch c i)))
             (cond ((putU u (ch c i)).rx.n != 1)
              false
              (cond ((putU u (ch c i)).tx.n != 0)
               false
               (cond (!((putU u (ch c i)).ov == ov))
                false
                (cond ((Nat.beq L L) && true)
                 (q (OS.mk L cp (mkg k c) (putU u (ch c i)) (some (Row.mk 1 (fun j => (ch c i)))) none ov (IntKind.wrap .i64 (i + 1))))
                 false))))
             false)
            false)
           false)
          false)
         false)
        (cond ((kap k i) == 2)
         (cond ((kap k i) == 2)
          (cond (inB i L)
           (cond (Nat.blt (Int.toNat i) L)
            (cond (cond ((okU u) && (!(latch u))) (cond (inB i L) (cond (Nat.blt (Int.toNat i) L) (cond (okU (write0U u (ch c i))) (cond ((write0U u (ch c i)).rx.n != 0) false (cond ((write0U u (ch c i)).tx.n != 1) false (cond (!((write0U u (ch c i)).ov == ov)) false (cond ((Nat.beq L L) && true) (q (OS.mk L cp (mkg k c) (write0U u (ch c i)) none (some (Row.mk 1 (fun j => (ch c i)))) ov (IntKind.wrap .i64 (i + 1)))) false)))) false) false) false) false)
             (cond ((okU u) && (!(latch u)))
              (cond (inB i L)
               (cond (Nat.blt (Int.toNat i) L)
                (cond (okU (write0U u (ch c i)))
                 (cond ((write0U u (ch c i)).rx.n != 0)
                  false
                  (cond ((write0U u (ch c i)).tx.n != 1)
                   false
                   (cond (!((write0U u (ch c i)).ov == ov))
                    false
                    (cond ((Nat.beq L L) && true)
                     (q (OS.mk L cp (mkg k c) (write0U u (ch c i)) none (some (Row.mk 1 (fun j => (ch c i)))) ov (IntKind.wrap .i64 (i + 1))))
                     false))))
                 false)
                false)
               false)
              false)
             false)
            false)
           false)
          (cond ((kap k i) == 4)
           (cond ((okU u) && (!(latch u)))
            (cond ((read0C u) != 0)
             false
             (cond (okU (read0U u))
              (cond ((read0U u).rx.n != 0)
               false
               (cond ((read0U u).tx.n != 0)
                false
                (cond (!((read0U u).ov == ov))
                 false
                 (cond ((Nat.beq L L) && true)
                  (q (OS.mk L cp (mkg k c) (read0U u) none none ov (IntKind.wrap .i64 (i + 1))))
                  false))))
              false))
            false)
           (cond (tickB u)
            false
            (cond (okU (tickU u))
             (cond ((tickU u).rx.n != 0)
              false
              (cond ((tickU u).tx.n != 0)
               false
               (cond (!((tickU u).ov == ov))
                false
                (cond ((Nat.beq L L) && true)
                 (q (OS.mk L cp (mkg k c) (tickU u) none none ov (IntKind.wrap .i64 (i + 1))))
                 false))))
             false))))
         (cond ((kap k i) == 3)
          (cond (inB i L)
           (cond (Nat.blt (Int.toNat i) L)
            (cond (cond ((okU u) && (!(latch u))) (cond (inB i L) (cond (Nat.blt (Int.toNat i) L) (cond (okU (write0U u (ch c i))) (cond ((write0U u (ch c i)).rx.n != 0) false (cond ((write0U u (ch c i)).tx.n != 1) false (cond (!((write0U u (ch c i)).ov == ov)) false (cond ((Nat.beq L L) && true) (q (OS.mk L cp (mkg k c) (write0U u (ch c i)) none (some (Row.mk 1 (fun j => (ch c i)))) ov (IntKind.wrap .i64 (i + 1)))) false)))) false) false) false) false)
             (cond ((okU u) && (!(latch u)))
              (cond (inB i L)
               (cond (Nat.blt (Int.toNat i) L)
                (cond (okU (write0U u (ch c i)))
                 (cond ((write0U u (ch c i)).rx.n != 0)
                  false
                  (cond ((write0U u (ch c i)).tx.n != 1)
                   false
                   (cond (!((write0U u (ch c i)).ov == ov))
                    false
                    (cond ((Nat.beq L L) && true)
                     (q (OS.mk L cp (mkg k c) (write0U u (ch c i)) none (some (Row.mk 1 (fun j => (ch c i)))) ov (IntKind.wrap .i64 (i + 1))))
                     false))))
                 false)
                false)
               false)
              false)
             false)
            false)
           false)
          (cond ((kap k i) == 4)
           (cond ((okU u) && (!(latch u)))
            (cond ((read0C u) != 0)
             false
             (cond (okU (read0U u))
              (cond ((read0U u).rx.n != 0)
               false
               (cond ((read0U u).tx.n != 0)
                false
                (cond (!((read0U u).ov == ov))
                 false
                 (cond ((Nat.beq L L) && true)
                  (q (OS.mk L cp (mkg k c) (read0U u) none none ov (IntKind.wrap .i64 (i + 1))))
                  false))))
              false))
            false)
           (cond (tickB u)
            false
            (cond (okU (tickU u))
             (cond ((tickU u).rx.n != 0)
              false
              (cond ((tickU u).tx.n != 0)
               false
               (cond (!((tickU u).ov == ov))
                false
                (cond ((Nat.beq L L) && true)
                 (q (OS.mk L cp (mkg k c) (tickU u) none none ov (IntKind.wrap .i64 (i + 1))))
                 false))))
             false)))))))
      false)
     false)
    (kk (.exit 0) nilS))
   (kk (.exit 0) nilS))

set_option maxRecDepth 100000 in
theorem roundNN_run (L cp : Nat) (k c : Nat → Int) (u : Us) (r1 r2 : Row) (ov : Bool) (i : Int) (q : OS → Bool) (kk : K) : roundX ⟨L, cp, mkg k c, u, none, none, ov, i⟩ q kk = roundNN L cp k c u r1 r2 ov i q kk := by kernel_rfl

end Go.Proofs.Yteionboacdkfjaa.X
