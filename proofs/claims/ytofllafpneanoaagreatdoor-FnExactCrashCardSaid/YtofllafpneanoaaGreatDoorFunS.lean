/- Plain types for the data. -/
import Derived.Test.YtofllafpneanoaaGreatDoorFun
set_option linter.unusedVariables false
set_option linter.unusedSimpArgs false
namespace F5
open Go Go.Fil
abbrev Zgq:Type:=(Int × ((List Int) × Unit))
abbrev Ziu:Type:=((List (List Int)) × ((List Zgq) × (Int × (Bool × Unit))))
abbrev Zee:Type:=(Int × (Int × (Int × (Bool × ((List Int) × ((List Int) × (Int × (Int × Unit))))))))
abbrev Zgr:Type:=(ByteArray × (Int × (Int × (Int × (Int × Unit)))))
abbrev Ze0:Type:=(Int × (ByteArray × (Int × (Int × (Int × (ByteArray × (Int × (Int × Unit))))))))
abbrev Zef:Type:=(Int × (ByteArray × (Int × (Int × (Int × (Int × (Int × Unit)))))))
abbrev Zrs:Type:=(Int × (Int × (Int × (Int × Unit))))
abbrev Za8:Type:=(Int × (Int × (Int × ((List Zgr) × (Bool × ((List Ze0) × ((List Zef) × (Int × (Zrs × Unit)))))))))
abbrev Zeg:Type:=(Int × ((List Int) × Unit))
abbrev Zgj:Type:=(Int × (Int × (Int × (Int × (Int × (Int × (Int × (Int × (Int × Unit)))))))))
abbrev Zca:Type:=(Int × (Ziu × ((List Zee) × ((List Za8) × ((List Zeg) × ((List Zgj) × (Int × (Int × Unit))))))))
abbrev Z22:Type:=(Int × ((List Int) × Unit))
abbrev Zm:Type:=((List (List Int)) × ((List Z22) × (Int × (Bool × Unit))))
abbrev Z8:Type:=(Int × (Int × (Int × (Bool × ((List Int) × ((List Int) × (Int × (Int × Unit))))))))
abbrev Zc:Type:=(ByteArray × (Int × (Int × (Int × (Int × Unit)))))
abbrev Ze:Type:=(Int × (ByteArray × (Int × (Int × (Int × (ByteArray × (Int × (Int × Unit))))))))
abbrev Zn:Type:=(Int × (ByteArray × (Int × (Int × (Int × (Int × (Int × Unit)))))))
abbrev Z3k:Type:=(Int × (Int × (Int × (Int × Unit))))
abbrev Z3:Type:=(Int × (Int × (Int × ((List Zc) × (Bool × ((List Ze) × ((List Zn) × (Int × (Z3k × Unit)))))))))
abbrev Zs:Type:=(Int × ((List Int) × Unit))
abbrev Zu:Type:=(Int × (Int × (Int × (Int × (Int × (Int × (Int × (Int × (Int × Unit)))))))))
abbrev Z2:Type:=(Int × (Zm × ((List Z8) × ((List Z3) × ((List Zs) × ((List Zu) × (Int × (Int × Unit))))))))
abbrev Z78:Type:=(Z2 × (Int × Unit))
abbrev Z18:Type:=(Int × (ByteArray × (Int × (ByteArray × (Int × (Int × Unit))))))
abbrev Z23:Type:=(Z18 × (Int × (Int × Unit)))
abbrev Z5u:Type:=(Int × (Int × (Int × (ByteArray × Unit))))
end F5
