/- Plain types for the data. -/
import Derived.Test.YtofllafpneanoaaGreatDoorFun
set_option linter.unusedVariables false
set_option linter.unusedSimpArgs false
namespace F5
open Go Go.Fil
abbrev S_laws_Wr:Type:=(Int × ((List Int) × Unit))
abbrev S_laws_Disk:Type:=((List (List Int)) × ((List S_laws_Wr) × (Int × (Bool × Unit))))
abbrev S_laws_Sock:Type:=(Int × (Int × (Int × (Bool × ((List Int) × ((List Int) × (Int × (Int × Unit))))))))
abbrev S_laws_Db:Type:=(ByteArray × (Int × (Int × (Int × (Int × Unit)))))
abbrev S_laws_Asker:Type:=(Int × (ByteArray × (Int × (Int × (Int × (ByteArray × (Int × (Int × Unit))))))))
abbrev S_laws_Line:Type:=(Int × (ByteArray × (Int × (Int × (Int × (Int × (Int × Unit)))))))
abbrev S_laws_Hand:Type:=(Int × (Int × (Int × (Int × Unit))))
abbrev S_laws_House:Type:=(Int × (Int × (Int × ((List S_laws_Db) × (Bool × ((List S_laws_Asker) × ((List S_laws_Line) × (Int × (S_laws_Hand × Unit)))))))))
abbrev S_laws_Pack:Type:=(Int × ((List Int) × Unit))
abbrev S_laws_Note:Type:=(Int × (Int × (Int × (Int × (Int × (Int × (Int × (Int × (Int × Unit)))))))))
abbrev S_laws_World:Type:=(Int × (S_laws_Disk × ((List S_laws_Sock) × ((List S_laws_House) × ((List S_laws_Pack) × ((List S_laws_Note) × (Int × (Int × Unit))))))))
abbrev S_impl_Wr:Type:=(Int × ((List Int) × Unit))
abbrev S_impl_Disk:Type:=((List (List Int)) × ((List S_impl_Wr) × (Int × (Bool × Unit))))
abbrev S_impl_Sock:Type:=(Int × (Int × (Int × (Bool × ((List Int) × ((List Int) × (Int × (Int × Unit))))))))
abbrev S_impl_Db:Type:=(ByteArray × (Int × (Int × (Int × (Int × Unit)))))
abbrev S_impl_Asker:Type:=(Int × (ByteArray × (Int × (Int × (Int × (ByteArray × (Int × (Int × Unit))))))))
abbrev S_impl_Line:Type:=(Int × (ByteArray × (Int × (Int × (Int × (Int × (Int × Unit)))))))
abbrev S_impl_Hand:Type:=(Int × (Int × (Int × (Int × Unit))))
abbrev S_impl_House:Type:=(Int × (Int × (Int × ((List S_impl_Db) × (Bool × ((List S_impl_Asker) × ((List S_impl_Line) × (Int × (S_impl_Hand × Unit)))))))))
abbrev S_impl_Pack:Type:=(Int × ((List Int) × Unit))
abbrev S_impl_Note:Type:=(Int × (Int × (Int × (Int × (Int × (Int × (Int × (Int × (Int × Unit)))))))))
abbrev S_impl_World:Type:=(Int × (S_impl_Disk × ((List S_impl_Sock) × ((List S_impl_House) × ((List S_impl_Pack) × ((List S_impl_Note) × (Int × (Int × Unit))))))))
abbrev S_impl_Known:Type:=(Int × (ByteArray × (Int × (ByteArray × (Int × (Int × Unit))))))
abbrev S_impl_Jour:Type:=(S_impl_Known × (Int × (Int × Unit)))
abbrev S_impl_Rec:Type:=(Int × (Int × (Int × (ByteArray × Unit))))
end F5
